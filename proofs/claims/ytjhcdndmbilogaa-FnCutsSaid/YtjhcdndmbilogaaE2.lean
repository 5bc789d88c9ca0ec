/-
  The engine, part 2: what an operation does to the world's part.
  CONDITIONS: those that each theorem names.
-/
import Derived.Test.YtjhcdndmbilogaaE1
import Derived.Laws.IdiomCopy
namespace Go.Proofs.Ytjhcdndmbilogaa
namespace Eng
open Go Go.RowKit
set_option linter.unusedVariables false
set_option linter.unusedSectionVars false

/-- What has become of the world: of the old blocks those of M alone may have changed, and no block of cells has become smaller. -/
structure Fr (M : Nat → Prop) (w w' : World) : Prop where
  os : w'.os = w.os
  tape : w'.tape = w.tape
  output : w'.output = w.output
  size : w.heap.size ≤ w'.heap.size
  block : ∀ k, k < w.heap.size → ¬ M k → w'.heap[k]? = w.heap[k]?
  cells : CMono w w'
theorem CMono.refl (w : World) : CMono w w := fun _ _ h => h
theorem CMono.trans {a b c : World} (h : CMono a b) (k : CMono b c) : CMono a c := fun x n e => k x n (h x n e)
theorem Fr.refl (M : Nat → Prop) (w : World) : Fr M w w := ⟨rfl, rfl, rfl, Nat.le_refl _, fun _ _ _ => rfl, fun _ _ h => h⟩
theorem Fr.below {M : Nat → Prop} {w w' : World} (h : Fr M w w') (hM : ∀ b, ¬ M b) : Below w.heap.size w w' :=
  ⟨h.os, h.tape, h.output, h.size, fun k hk => h.block k hk (hM k)⟩

def ObjRel (E : Env) (w : World) (o : Nat) : Obj → Prop
  | .box cs => ∃ b off, E.ρ o = some (.at b off) ∧ (∀ y, ¬ E.Z b y) ∧ Cells w b (off + cs.length) ∧
      ∀ (j : Nat) (c : C), cs[j]? = some c → ∃ u, w.cell? ⟨b, off + j, none⟩ = some u ∧ one u = true ∧ RepC E w c u
  | .row fz t xs => (E.ρ o = some .virt ∧ xs = []) ∨ ∃ b off, E.ρ o = some (.at b off) ∧ (∀ y, E.Z b y → fz = true ∧ off ≤ y ∧ y < off + xs.length * t.size) ∧
      Cells w b (off + xs.length * t.size) ∧
      ∀ (i : Nat) (x : t.T), xs[i]? = some x → ∃ us, RepT E.Z w t x us ∧ ∀ (j : Nat) (u : Value), us[j]? = some u → w.cell? ⟨b, off + (i * t.size + j), none⟩ = some u

theorem ObjRel.mono {E E' : Env} {w w' : World} {o : Nat} {ob : Obj} (hl : Le E w E' w') (hb : ∀ b off, E.ρ o = some (.at b off) → w'.heap[b]? = w.heap[b]? ∧ ∀ y, E'.Z b y → E.Z b y)
    (h : ObjRel E w o ob) : ObjRel E' w' o ob := by
  cases ob with
  | box cells =>
    obtain ⟨b, off, h1, h2, h3, h4⟩ := h
    refine ⟨b, off, hl.ρ _ _ h1, fun y hy => h2 y ((hb b off h1).2 y hy), hl.c _ _ h3, fun j c hj => ?_⟩
    obtain ⟨u, h5, h6, h7⟩ := h4 j c hj
    exact ⟨u, (cell_of_heap (hb b off h1).1).trans h5, h6, RepC.mono hl h7⟩
  | row fz t xs =>
    rcases h with ⟨h1, h2⟩ | ⟨b, off, h1, h2, h3, h4⟩
    · exact .inl ⟨hl.ρ _ _ h1, h2⟩
    · refine .inr ⟨b, off, hl.ρ _ _ h1, fun y hy => h2 y ((hb b off h1).2 y hy), hl.c _ _ h3, fun i x hx => ?_⟩
      obtain ⟨us, h5, h6⟩ := h4 i x hx
      exact ⟨us, RepT.mono hl.Z hl.k t _ _ h5, fun j u hu => (cell_of_heap (hb b off h1).1).trans (h6 j u hu)⟩

/-- What stays the same through a call: facts on the lowest blocks, the world in which the call began, its old blocks that may change, its read-only cells. -/
structure Ctx where
  J : World → Prop
  G : Nat
  w0 : World
  M : Nat → Prop
  Z0 : ZS

/-- J hangs on the blocks below G alone. -/
def Stable (J : World → Prop) (G : Nat) : Prop := ∀ w w', (∀ b, b < G → w'.heap[b]? = w.heap[b]?) → J w → J w'

/-- The world's part of a state. -/
structure WRel (K : Ctx) (E : Env) (U : Nat → Prop) (w : World) : Prop where
  obj : ∀ o ob, E.H o = some ob → ObjRel E w o ob
  inj : ∀ o o' ob ob' b off off', E.H o = some ob → E.H o' = some ob' → E.ρ o = some (.at b off) → E.ρ o' = some (.at b off') → o = o'
  mine : ∀ o ob b off, E.H o = some ob → E.ρ o = some (.at b off) → (K.w0.heap.size ≤ b ∨ K.M b) ∧ K.G ≤ b
  zlt : ∀ b y, E.Z b y → b < w.heap.size
  zw : ∀ b y, E.Z b y → K.Z0 b y ∨ K.w0.heap.size ≤ b ∨ K.M b
  z0 : ZLe K.Z0 E.Z
  keep : Keeps K.Z0 K.w0 w
  used : ∀ o p, E.ρ o = some p → U o
  fr : Fr K.M K.w0 w
  g : K.G ≤ K.w0.heap.size
  js : Stable K.J K.G
  j : K.J w

/-- What an operation leaves: its value, and the world's part anew. -/
def Out (K : Ctx) (E : Env) (H' : Hp) (U' : Nat → Prop) (w : World) (fv : FV) (v : Value) (w' : World) : Prop :=
  ∃ E', E'.H = H' ∧ Le E w E' w' ∧ WRel K E' U' w' ∧ RepFV E' w' fv v

section
variable {K : Ctx} {E : Env} {U : Nat → Prop} {w w' : World}
theorem Out.pure {fv : FV} {v : Value} (hW : WRel K E U w) (hv : RepFV E w fv v) : Out K E E.H U w fv v w :=
  ⟨E, rfl, Le.refl E w, hW, hv⟩
theorem WRel.used_mono {U' : Nat → Prop} (hW : WRel K E U w) (hU : ∀ o, U o → U' o) : WRel K E U' w :=
  { hW with used := fun o p h => hU o (hW.used o p h) }
theorem WRel.free {o : Nat} (hW : WRel K E U w) (ho : ¬ U o) : E.ρ o = none := by
  cases h : E.ρ o with
  | none => rfl
  | some p => exact absurd (hW.used o p h) ho
theorem WRel.placed {o : Nat} {ob : Obj} (hW : WRel K E U w) (h : E.H o = some ob) : ∃ p, E.ρ o = some p := by
  have h1 := hW.obj o ob h
  cases ob with
  | box cells => obtain ⟨b, off, h3, _⟩ := h1; exact ⟨_, h3⟩
  | row fz t xs => rcases h1 with ⟨h3, _⟩ | ⟨b, off, h3, _⟩ <;> exact ⟨_, h3⟩
theorem WRel.none_H {o : Nat} (hW : WRel K E U w) (ho : ¬ U o) : E.H o = none := by
  cases h : E.H o with
  | none => rfl
  | some ob =>
    obtain ⟨p, hp⟩ := hW.placed h
    rw [hW.free ho] at hp; cases hp
theorem WRel.lt {o : Nat} {ob : Obj} {b off : Nat} (hW : WRel K E U w) (h : E.H o = some ob) (hp : E.ρ o = some (.at b off)) : b < w.heap.size := by
  have h1 := hW.obj o ob h
  cases ob with
  | box cells => obtain ⟨b', off', h3, h4, h5, _⟩ := h1; rw [hp] at h3; cases h3; exact h5.lt
  | row fz t xs =>
    rcases h1 with ⟨h3, _⟩ | ⟨b', off', h3, h4, h5, _⟩
    · rw [hp] at h3; cases h3
    · rw [hp] at h3; cases h3; exact h5.lt

/-- The general step: each object is as it was, in a block that nobody has touched, or told anew. -/
theorem WRel.upd {E' : Env} {U' : Nat → Prop} (hW : WRel K E U w) (hl : Le E w E' w')
    (hobj : ∀ o ob, E'.H o = some ob → (E.H o = some ob ∧ ∀ b off, E.ρ o = some (.at b off) → w'.heap[b]? = w.heap[b]? ∧ ∀ y, E'.Z b y → E.Z b y) ∨ ObjRel E' w' o ob)
    (hinj : ∀ o o' ob ob' b off off', E'.H o = some ob → E'.H o' = some ob' → E'.ρ o = some (.at b off) → E'.ρ o' = some (.at b off') → o = o')
    (hmine : ∀ o ob b off, E'.H o = some ob → E'.ρ o = some (.at b off) → (K.w0.heap.size ≤ b ∨ K.M b) ∧ K.G ≤ b)
    (hzlt : ∀ b y, E'.Z b y → b < w'.heap.size) (hzw : ∀ b y, E'.Z b y → E.Z b y ∨ K.w0.heap.size ≤ b ∨ K.M b)
    (hused : ∀ o p, E'.ρ o = some p → U' o) (hfr : Fr K.M K.w0 w') (hj : ∀ b, b < K.G → w'.heap[b]? = w.heap[b]?) : WRel K E' U' w' where
  obj := fun o ob ho => by
    rcases hobj o ob ho with ⟨h1, h2⟩ | h
    · exact ObjRel.mono hl h2 (hW.obj o ob h1)
    · exact h
  inj := hinj
  mine := hmine
  zlt := hzlt
  zw := fun b y hy => by
    rcases hzw b y hy with h | h
    · exact hW.zw b y h
    · exact .inr h
  z0 := fun b y h => hl.Z b y (hW.z0 b y h)
  keep := fun b y h => (hl.k b y (hW.z0 b y h)).trans (hW.keep b y h)
  used := hused
  fr := hfr
  g := hW.g
  js := hW.js
  j := hW.js w w' hj hW.j
end
def updP (ρ : Place) (o : Nat) (p : Pl) : Place := fun x => if x = o then some p else ρ x
theorem updP_same (ρ : Place) (o : Nat) (p : Pl) : updP ρ o p o = some p := by simp [updP]
theorem updP_ext {ρ : Place} {o : Nat} {p : Pl} (h : ρ o = none) : Ext ρ (updP ρ o p) := fun x q hx => by
  unfold updP
  by_cases e : x = o
  · subst e; rw [h] at hx; cases hx
  · rw [if_neg e]; exact hx
def setH (H : Hp) (o : Nat) (ob : Option Obj) : Hp := fun x => if x = o then ob else H x
theorem setH_same (H : Hp) (o : Nat) (ob : Option Obj) : setH H o ob o = ob := by simp [setH]
theorem setH_ne (H : Hp) {o x : Nat} (ob : Option Obj) (h : x ≠ o) : setH H o ob x = H x := by simp [setH, h]

/-! ### A new block -/
abbrev pushW (w : World) (cs : Array Value) (ty : TypeId) : World := w.alloc (.cells cs ty)
theorem pushW_old {w : World} {cs : Array Value} {ty : TypeId} {b : Nat} (h : b < w.heap.size) : (pushW w cs ty).heap[b]? = w.heap[b]? := by
  unfold pushW World.alloc
  simp only [Array.getElem?_push]
  rw [if_neg (by omega)]
theorem pushW_new (w : World) (cs : Array Value) (ty : TypeId) : (pushW w cs ty).heap[w.heap.size]? = some (.cells cs ty (0, 0)) := by
  unfold pushW World.alloc
  simp
theorem pushW_cells {w : World} {cs : Array Value} {ty : TypeId} : CMono w (pushW w cs ty) := fun b n h => by
  obtain ⟨c, t, h1, h2⟩ := h
  exact ⟨c, t, (pushW_old (Array.getElem?_eq_some_iff.1 h1).1).trans h1, h2⟩
theorem pushW_cell (w : World) (cs : Array Value) (ty : TypeId) (j : Nat) : (pushW w cs ty).cell? ⟨w.heap.size, j, none⟩ = cs[j]? := by
  unfold World.cell?
  rw [pushW_new]
  simp

abbrev setCells (w : World) (b x : Nat) (vs : List Value) : World := w.setCells b x vs

/-- w' is w but for block b, whose cells are as many and as free as before. -/
structure OnlyB (b : Nat) (w w' : World) : Prop where
  os : w'.os = w.os
  tape : w'.tape = w.tape
  output : w'.output = w.output
  size : w'.heap.size = w.heap.size
  other : ∀ k, k ≠ b → w'.heap[k]? = w.heap[k]?
  cells : CMono w w'

theorem OnlyB.refl (b : Nat) (w : World) : OnlyB b w w := ⟨rfl, rfl, rfl, rfl, fun _ _ => rfl, CMono.refl w⟩
theorem OnlyB.trans {b : Nat} {u v w : World} (h : OnlyB b u v) (k : OnlyB b v w) : OnlyB b u w :=
  ⟨k.os.trans h.os, k.tape.trans h.tape, k.output.trans h.output, k.size.trans h.size, fun x hx => (k.other x hx).trans (h.other x hx), h.cells.trans k.cells⟩

theorem setCell_heap (w : World) (b x : Nat) (v : Value) (k : Nat) (hk : k ≠ b) : (w.setCell ⟨b, x, none⟩ v).heap[k]? = w.heap[k]? := by
  unfold World.setCell
  simp [Array.getElem?_modify, Ne.symm hk]
theorem setCell_only {w : World} {b x : Nat} {v : Value} : OnlyB b w (w.setCell ⟨b, x, none⟩ v) where
  os := rfl
  tape := rfl
  output := rfl
  size := by unfold World.setCell; simp
  other := fun k hk => setCell_heap w b x v k hk
  cells := fun k n h => by
    obtain ⟨cs, ty, h1, h2⟩ := h
    by_cases e : k = b
    · subst e
      refine ⟨cs.setIfInBounds x v, ty, ?_, by simpa using h2⟩
      unfold World.setCell
      simp [Array.getElem?_modify, h1]
    · exact ⟨cs, ty, (setCell_heap w b x v k e).trans h1, h2⟩
theorem setCell_cell {w : World} {b x : Nat} {v : Value} {n : Nat} (h : Cells w b n) (hx : x < n) (y : Nat) :
    (w.setCell ⟨b, x, none⟩ v).cell? ⟨b, y, none⟩ = if y = x then some v else w.cell? ⟨b, y, none⟩ := by
  obtain ⟨cs, ty, h1, h2⟩ := h
  unfold World.setCell World.cell?
  simp only [Array.getElem?_modify, h1, if_true, Option.map_some, Option.isSome_none, if_false, Bool.false_eq_true]
  by_cases e : y = x
  · subst e; simp [Array.getElem?_setIfInBounds]; omega
  · simp [Ne.symm e, e]
theorem setCells_only : ∀ (vs : List Value) {w : World} {b x : Nat}, OnlyB b w (setCells w b x vs)
  | [], w, b, x => OnlyB.refl b w
  | v :: vs, w, b, x => setCell_only.trans (setCells_only vs)
theorem setCells_cell : ∀ (vs : List Value) {w : World} {b x n : Nat} (h : Cells w b n) (hx : x + vs.length ≤ n) (y : Nat),
    (setCells w b x vs).cell? ⟨b, y, none⟩ = if x ≤ y ∧ y < x + vs.length then vs[y - x]? else w.cell? ⟨b, y, none⟩
  | [], w, b, x, n, h, hx, y => by rw [if_neg (by simp)]; rfl
  | v :: vs, w, b, x, n, h, hx, y => by
    simp only [List.length_cons] at hx
    have h1 := setCells_cell vs (n := n) (x := x + 1) (setCell_only.cells _ _ h : Cells (w.setCell ⟨b, x, none⟩ v) b n) (by omega) y
    unfold setCells World.setCells
    rw [h1, setCell_cell h (by omega)]
    simp only [List.length_cons]
    by_cases e1 : y = x
    · subst e1
      rw [if_neg (by omega), if_pos rfl, if_pos (by omega)]
      simp
    · by_cases e2 : x + 1 ≤ y ∧ y < x + 1 + vs.length
      · rw [if_pos e2, if_pos (by omega)]
        obtain ⟨d, hd⟩ : ∃ d, y - x = d + 1 := ⟨y - x - 1, by omega⟩
        rw [hd]
        simp
        congr 1
        omega
      · rw [if_neg e2, if_neg e1, if_neg (by omega)]
section
variable {K : Ctx} {E : Env} {U : Nat → Prop} {w w' : World}
theorem WRel.block_ne {o x : Nat} {ob ox : Obj} {b off b' off' : Nat} (hW : WRel K E U w) (ho : E.H o = some ob) (hp : E.ρ o = some (.at b off))
    (hx : E.H x = some ox) (hne : x ≠ o) (hpx : E.ρ x = some (.at b' off')) : b' ≠ b := by
  intro e
  subst e
  exact hne (hW.inj x o ox ob b' off' off hx ho hpx hp)
theorem WRel.fr_only {b : Nat} (hW : WRel K E U w) (hb : K.w0.heap.size ≤ b ∨ K.M b) (h : OnlyB b w w') : Fr K.M K.w0 w' :=
  ⟨h.os.trans hW.fr.os, h.tape.trans hW.fr.tape, h.output.trans hW.fr.output, by rw [h.size]; exact hW.fr.size,
    fun k hk hM => (h.other k (by rintro rfl; rcases hb with hb | hb; omega; exact hM hb)).trans (hW.fr.block k hk hM), hW.fr.cells.trans h.cells⟩
/-- A new block with a new object in it. -/
theorem WRel.push (hW : WRel K E U w) {o : Nat} {ob : Obj} (cs : Array Value) (ty : TypeId) (ho : ¬ U o)
    (hob : Le E w ⟨updP E.ρ o (.at w.heap.size 0), E.Z, setH E.H o (some ob)⟩ (pushW w cs ty) → ObjRel ⟨updP E.ρ o (.at w.heap.size 0), E.Z, setH E.H o (some ob)⟩ (pushW w cs ty) o ob) :
    Le E w ⟨updP E.ρ o (.at w.heap.size 0), E.Z, setH E.H o (some ob)⟩ (pushW w cs ty) ∧
    WRel K ⟨updP E.ρ o (.at w.heap.size 0), E.Z, setH E.H o (some ob)⟩ (fun x => U x ∨ x = o) (pushW w cs ty) := by
  have hl : Le E w ⟨updP E.ρ o (.at w.heap.size 0), E.Z, setH E.H o (some ob)⟩ (pushW w cs ty) :=
    ⟨updP_ext (hW.free ho), fun _ _ h => h, fun b y h => cell_of_heap (pushW_old (hW.zlt b y h)), pushW_cells, fun x p fz t xs hx hh => by
      by_cases e : x = o
      · subst e; rw [hW.free ho] at hx; cases hx
      · simp only [setH_ne _ _ e] at hh; exact ⟨_, _, _, hh, rfl⟩⟩
  refine ⟨hl, hW.upd hl (fun x ox hx => ?_) (fun x y ox oy b off off' hx hy hpx hpy => ?_) (fun x ox b off hx hpx => ?_) (fun b y hb => ?_) (fun b y h => .inl h) (fun x p hx => ?_) ?_ (fun b hb => ?_)⟩
  · by_cases e : x = o
    · subst e
      simp only [setH_same, Option.some.injEq] at hx
      subst hx
      exact .inr (hob hl)
    · simp only [setH_ne _ _ e] at hx
      exact .inl ⟨hx, fun b off hp => ⟨pushW_old (hW.lt hx hp), fun _ h => h⟩⟩
  · simp only [setH, updP] at hx hy hpx hpy
    by_cases ex : x = o <;> by_cases ey : y = o
    · rw [ex, ey]
    · rw [if_pos ex] at hpx; rw [if_neg ey] at hpy hy
      cases hpx
      exact absurd (hW.lt hy hpy) (Nat.lt_irrefl _)
    · rw [if_pos ey] at hpy; rw [if_neg ex] at hpx hx
      cases hpy
      exact absurd (hW.lt hx hpx) (Nat.lt_irrefl _)
    · rw [if_neg ex] at hpx hx; rw [if_neg ey] at hpy hy
      exact hW.inj x y ox oy b off off' hx hy hpx hpy
  · simp only [setH, updP] at hx hpx
    by_cases ex : x = o
    · rw [if_pos ex] at hpx
      cases hpx
      exact ⟨.inl hW.fr.size, Nat.le_trans hW.g hW.fr.size⟩
    · rw [if_neg ex] at hpx hx
      exact hW.mine x ox b off hx hpx
  · have := hW.zlt b y hb
    simp
    omega
  · simp only [updP] at hx
    by_cases ex : x = o
    · exact .inr ex
    · rw [if_neg ex] at hx; exact .inl (hW.used x p hx)
  · exact ⟨hW.fr.os, hW.fr.tape, hW.fr.output, by have := hW.fr.size; simp; omega, fun k hk hM => (pushW_old (Nat.lt_of_lt_of_le hk hW.fr.size)).trans (hW.fr.block k hk hM), hW.fr.cells.trans pushW_cells⟩
  · exact pushW_old (Nat.lt_of_lt_of_le hb (Nat.le_trans hW.g hW.fr.size))
/-- An object is written in its block, of whose cells none is read-only; as a row it keeps its length. -/
theorem WRel.write (hW : WRel K E U w) {o : Nat} {ob ob' : Obj} {b off : Nat} (ho : E.H o = some ob)
    (hp : E.ρ o = some (.at b off)) (hz : ∀ y, ¬ E.Z b y) (h : OnlyB b w w') (hlen : ∀ fz t xs, ob' = .row fz t xs → ∃ fz' t' xs', ob = .row fz' t' xs' ∧ xs'.length = xs.length)
    (hob : Le E w ⟨E.ρ, E.Z, setH E.H o (some ob')⟩ w' → ObjRel ⟨E.ρ, E.Z, setH E.H o (some ob')⟩ w' o ob') :
    Le E w ⟨E.ρ, E.Z, setH E.H o (some ob')⟩ w' ∧ WRel K ⟨E.ρ, E.Z, setH E.H o (some ob')⟩ U w' := by
  have hl : Le E w ⟨E.ρ, E.Z, setH E.H o (some ob')⟩ w' :=
    ⟨Ext.refl _, fun _ _ h => h, fun k y hk => cell_of_heap (h.other k (by rintro rfl; exact hz y hk)), h.cells, fun x p fz t xs hx hh => by
      by_cases e : x = o
      · subst e
        simp only [setH_same, Option.some.injEq] at hh
        obtain ⟨fz', t', xs', h1, h2⟩ := hlen fz t xs hh
        exact ⟨fz', t', xs', by rw [ho, h1], h2⟩
      · simp only [setH_ne _ _ e] at hh; exact ⟨_, _, _, hh, rfl⟩⟩
  refine ⟨hl, hW.upd hl (fun x ox hx => ?_) (fun x y ox oy k off1 off2 hx hy hpx hpy => ?_) (fun x ox k off1 hx hpx => ?_) (fun k y hk => ?_) (fun b y h => .inl h) hW.used (hW.fr_only (hW.mine o ob b off ho hp).1 h)
    (fun k hk => h.other k (by have := (hW.mine o ob b off ho hp).2; omega))⟩
  · by_cases e : x = o
    · subst e
      simp only [setH_same, Option.some.injEq] at hx
      subst hx
      exact .inr (hob hl)
    · simp only [setH_ne _ _ e] at hx
      exact .inl ⟨hx, fun k off' hpx => ⟨h.other k (hW.block_ne ho hp hx e hpx), fun _ h => h⟩⟩
  · simp only [setH] at hx hy
    have fx : ∃ ox, E.H x = some ox := by
      by_cases e : x = o
      · subst e; exact ⟨ob, ho⟩
      · rw [if_neg e] at hx; exact ⟨ox, hx⟩
    have fy : ∃ oy, E.H y = some oy := by
      by_cases e : y = o
      · subst e; exact ⟨ob, ho⟩
      · rw [if_neg e] at hy; exact ⟨oy, hy⟩
    obtain ⟨ox', hx'⟩ := fx
    obtain ⟨oy', hy'⟩ := fy
    exact hW.inj x y ox' oy' k off1 off2 hx' hy' hpx hpy
  · simp only [setH] at hx
    by_cases e : x = o
    · subst e; exact hW.mine x ob k off1 ho hpx
    · rw [if_neg e] at hx; exact hW.mine x ox k off1 hx hpx
  · rw [h.size]; exact hW.zlt k y hk
/-- An object is forgotten. -/
theorem WRel.del (hW : WRel K E U w) (o : Nat) : Le E w ⟨E.ρ, E.Z, setH E.H o none⟩ w ∧ WRel K ⟨E.ρ, E.Z, setH E.H o none⟩ U w := by
  have hn : ∀ x ox, setH E.H o none x = some ox → E.H x = some ox := fun x ox hx => by
    by_cases e : x = o
    · subst e; simp [setH] at hx
    · rwa [setH_ne _ _ e] at hx
  have hl : Le E w ⟨E.ρ, E.Z, setH E.H o none⟩ w :=
    ⟨Ext.refl _, fun _ _ h => h, fun _ _ _ => rfl, fun _ _ h => h, fun x p fz t xs hx hh => ⟨_, _, _, hn _ _ hh, rfl⟩⟩
  exact ⟨hl, hW.upd hl (fun x ox hx => .inl ⟨hn x ox hx, fun _ _ _ => ⟨rfl, fun _ h => h⟩⟩) (fun x y ox oy k off1 off2 hx hy => hW.inj x y ox oy k off1 off2 (hn _ _ hx) (hn _ _ hy))
    (fun x ox k off1 hx => hW.mine x ox k off1 (hn _ _ hx)) hW.zlt (fun _ _ h => .inl h) hW.used hW.fr (fun _ _ => rfl)⟩
/-- An object is given a new number and another begin in its block, and of its block cells may be written that are not read-only. -/
theorem WRel.move (hW : WRel K E U w) {o n : Nat} {ob ob' : Obj} {b off x : Nat} (ho : E.H o = some ob)
    (hp : E.ρ o = some (.at b off)) (hn : ¬ U n) (h : OnlyB b w w') (hz : ∀ y, E.Z b y → w'.cell? ⟨b, y, none⟩ = w.cell? ⟨b, y, none⟩)
    (hob : Le E w ⟨updP E.ρ n (.at b x), E.Z, setH (setH E.H o none) n (some ob')⟩ w' → ObjRel ⟨updP E.ρ n (.at b x), E.Z, setH (setH E.H o none) n (some ob')⟩ w' n ob') :
    Le E w ⟨updP E.ρ n (.at b x), E.Z, setH (setH E.H o none) n (some ob')⟩ w' ∧ WRel K ⟨updP E.ρ n (.at b x), E.Z, setH (setH E.H o none) n (some ob')⟩ (fun y => U y ∨ y = n) w' := by
  have hd : ∀ y oy, y ≠ n → setH (setH E.H o none) n (some ob') y = some oy → y ≠ o ∧ E.H y = some oy := fun y oy hy hh => by
    rw [setH_ne _ _ hy] at hh
    by_cases e : y = o
    · subst e; simp [setH] at hh
    · rw [setH_ne _ _ e] at hh; exact ⟨e, hh⟩
  have hl : Le E w ⟨updP E.ρ n (.at b x), E.Z, setH (setH E.H o none) n (some ob')⟩ w' :=
    ⟨updP_ext (hW.free hn), fun _ _ h => h, fun k y hk => by
      by_cases e : k = b
      · subst e; exact hz y hk
      · exact cell_of_heap (h.other k e), h.cells, fun y p fz t xs hy hh => by
      by_cases e : y = n
      · subst e; rw [hW.free hn] at hy; cases hy
      · exact ⟨_, _, _, (hd y _ e hh).2, rfl⟩⟩
  refine ⟨hl, hW.upd hl (fun y oy hy => ?_) (fun y z oy oz k off1 off2 hy hz hpy hpz => ?_) (fun y oy k off1 hy hpy => ?_) (fun k y hk => ?_) (fun b y h => .inl h) (fun y p hy => ?_) (hW.fr_only (hW.mine o ob b off ho hp).1 h)
    (fun k hk => h.other k (by have := (hW.mine o ob b off ho hp).2; omega))⟩
  · by_cases e : y = n
    · subst e
      simp only [setH_same, Option.some.injEq] at hy
      subst hy
      exact .inr (hob hl)
    · obtain ⟨h1, h2⟩ := hd y oy e hy
      exact .inl ⟨h2, fun k off' hpy => ⟨h.other k (hW.block_ne ho hp h2 h1 hpy), fun _ h => h⟩⟩
  · by_cases ey : y = n <;> by_cases ez : z = n
    · rw [ey, ez]
    · simp only [updP] at hpy hpz
      rw [if_pos ey] at hpy; rw [if_neg ez] at hpz
      cases hpy
      obtain ⟨h1, h2⟩ := hd z oz ez hz
      exact absurd rfl (hW.block_ne ho hp h2 h1 hpz)
    · simp only [updP] at hpy hpz
      rw [if_pos ez] at hpz; rw [if_neg ey] at hpy
      cases hpz
      obtain ⟨h1, h2⟩ := hd y oy ey hy
      exact absurd rfl (hW.block_ne ho hp h2 h1 hpy)
    · simp only [updP] at hpy hpz
      rw [if_neg ey] at hpy; rw [if_neg ez] at hpz
      exact hW.inj y z oy oz k off1 off2 (hd y oy ey hy).2 (hd z oz ez hz).2 hpy hpz
  · simp only [updP] at hpy
    by_cases ey : y = n
    · rw [if_pos ey] at hpy
      cases hpy
      exact hW.mine o ob b off ho hp
    · rw [if_neg ey] at hpy
      exact hW.mine y oy k off1 (hd y oy ey hy).2 hpy
  · rw [h.size]; exact hW.zlt k y hk
  · simp only [updP] at hy
    by_cases ey : y = n
    · exact .inr ey
    · rw [if_neg ey] at hy; exact .inl (hW.used y p hy)
/-- A row's elements are made read-only. -/
theorem WRel.freeze (hW : WRel K E U w) {o : Nat} {fz : Bool} {t : Ty} {xs : List t.T} {b off : Nat} (ho : E.H o = some (.row fz t xs)) (hp : E.ρ o = some (.at b off)) :
    Le E w ⟨E.ρ, fun k y => E.Z k y ∨ k = b ∧ off ≤ y ∧ y < off + xs.length * t.size, setH E.H o (some (.row true t xs))⟩ w ∧
    WRel K ⟨E.ρ, fun k y => E.Z k y ∨ k = b ∧ off ≤ y ∧ y < off + xs.length * t.size, setH E.H o (some (.row true t xs))⟩ U w := by
  have hlt := hW.lt ho hp
  have hl : Le E w ⟨E.ρ, fun k y => E.Z k y ∨ k = b ∧ off ≤ y ∧ y < off + xs.length * t.size, setH E.H o (some (.row true t xs))⟩ w :=
    ⟨Ext.refl _, fun _ _ h => .inl h, fun _ _ _ => rfl, fun _ _ h => h, fun x p fz' t' xs' hx hh => by
      by_cases e : x = o
      · subst e
        simp only [setH_same, Option.some.injEq] at hh
        cases hh
        exact ⟨_, _, _, ho, rfl⟩
      · simp only [setH_ne _ _ e] at hh; exact ⟨_, _, _, hh, rfl⟩⟩
  have hn : ∀ x ox, setH E.H o (some (.row true t xs)) x = some ox → ∃ ox', E.H x = some ox' := fun x ox hx => by
    by_cases e : x = o
    · subst e; exact ⟨_, ho⟩
    · rw [setH_ne _ _ e] at hx; exact ⟨_, hx⟩
  refine ⟨hl, hW.upd hl (fun x ox hx => ?_) (fun x y ox oy k off1 off2 hx hy hpx hpy => ?_) (fun x ox k off1 hx hpx => ?_) (fun k y hk => ?_) (fun k y hk => ?_) hW.used hW.fr (fun _ _ => rfl)⟩
  · by_cases e : x = o
    · subst e
      simp only [setH_same, Option.some.injEq] at hx
      subst hx
      refine .inr ?_
      rcases hW.obj x _ ho with ⟨h3, _⟩ | ⟨b', off', h3, h4, h5, h6⟩
      · rw [hp] at h3; cases h3
      · have h3' := h3
        rw [hp] at h3'
        cases h3'
        refine .inr ⟨b, off, h3, fun y hy => ?_, h5, fun i x hx => ?_⟩
        · rcases hy with hy | hy
          · exact ⟨rfl, (h4 y hy).2⟩
          · exact ⟨rfl, hy.2⟩
        · obtain ⟨us, h7, h8⟩ := h6 i x hx
          exact ⟨us, RepT.mono hl.Z hl.k t _ _ h7, h8⟩
    · simp only [setH_ne _ _ e] at hx
      refine .inl ⟨hx, fun k off' hpx => ⟨rfl, fun y hy => ?_⟩⟩
      rcases hy with hy | ⟨hy, _⟩
      · exact hy
      · exact absurd hy (hW.block_ne ho hp hx e hpx)
  · obtain ⟨ox', hx'⟩ := hn x ox hx
    obtain ⟨oy', hy'⟩ := hn y oy hy
    exact hW.inj x y ox' oy' k off1 off2 hx' hy' hpx hpy
  · obtain ⟨ox', hx'⟩ := hn x ox hx
    exact hW.mine x ox' k off1 hx' hpx
  · rcases hk with hk | hk
    · exact hW.zlt k y hk
    · rw [hk.1]; exact hlt
  · rcases hk with hk | hk
    · exact .inl hk
    · rw [hk.1]; exact .inr (hW.mine o _ b off ho hp).1
/-- A row of no block: its mark alone turns. -/
theorem WRel.freezeV (hW : WRel K E U w) {o : Nat} {fz : Bool} {t : Ty} {xs : List t.T} (ho : E.H o = some (.row fz t xs)) (hp : E.ρ o = some .virt) :
    Le E w ⟨E.ρ, E.Z, setH E.H o (some (.row true t xs))⟩ w ∧ WRel K ⟨E.ρ, E.Z, setH E.H o (some (.row true t xs))⟩ U w := by
  have hl : Le E w ⟨E.ρ, E.Z, setH E.H o (some (.row true t xs))⟩ w :=
    ⟨Ext.refl _, fun _ _ h => h, fun _ _ _ => rfl, fun _ _ h => h, fun x p fz' t' xs' hx hh => by
      by_cases e : x = o
      · subst e
        simp only [setH_same, Option.some.injEq] at hh
        cases hh
        exact ⟨_, _, _, ho, rfl⟩
      · simp only [setH_ne _ _ e] at hh; exact ⟨_, _, _, hh, rfl⟩⟩
  have hn : ∀ x ox, setH E.H o (some (.row true t xs)) x = some ox → ∃ ox', E.H x = some ox' := fun x ox hx => by
    by_cases e : x = o
    · subst e; exact ⟨_, ho⟩
    · rw [setH_ne _ _ e] at hx; exact ⟨_, hx⟩
  refine ⟨hl, hW.upd hl (fun x ox hx => ?_) (fun x y ox oy k off1 off2 hx hy hpx hpy => ?_) (fun x ox k off1 hx hpx => ?_) hW.zlt (fun k y hk => .inl hk) hW.used hW.fr (fun _ _ => rfl)⟩
  · by_cases e : x = o
    · subst e
      simp only [setH_same, Option.some.injEq] at hx
      subst hx
      rcases hW.obj x _ ho with ⟨h3, h4⟩ | ⟨b', off', h3, h4, h5, h6⟩
      · exact .inr (.inl ⟨h3, h4⟩)
      · rw [hp] at h3; cases h3
    · simp only [setH_ne _ _ e] at hx
      exact .inl ⟨hx, fun k off' hpx => ⟨rfl, fun y hy => hy⟩⟩
  · obtain ⟨ox', hx'⟩ := hn x ox hx
    obtain ⟨oy', hy'⟩ := hn y oy hy
    exact hW.inj x y ox' oy' k off1 off2 hx' hy' hpx hpy
  · obtain ⟨ox', hx'⟩ := hn x ox hx
    exact hW.mine x ox' k off1 hx' hpx
end
end Eng
end Go.Proofs.Ytjhcdndmbilogaa
