/-
  The engine, part 12: modes: what is handed to a function and back.
  CONDITIONS: those that each theorem names.
-/
import Derived.Test.YtjhcdndmbilogaaE11
namespace Go.Proofs.Ytjhcdndmbilogaa
namespace Eng
open Go Go.RowKit
set_option linter.unusedVariables false
set_option linter.unusedSimpArgs false

/-- How cells are handed on: as read-only data; as a row of one's own. -/
inductive M1 where
  | dat (t : Ty)
  | own (fz : Bool) (t : Ty)

@[reducible] def M1.T : M1 → Type
  | .dat t => t.T
  | .own _ t => List t.T

/-- A value: one cell; an aggregate; a pointer to the start of a box. -/
inductive PM where
  | c (m : M1)
  | agg (ms : List M1)
  | ptr (ms : List M1)

@[reducible] def HT : List M1 → Type
  | [] => Unit
  | m :: ms => m.T × HT ms
@[reducible] def PM.ms : PM → List M1
  | .c m => [m]
  | .agg ms => ms
  | .ptr ms => ms
@[reducible] def PM.T : PM → Type
  | .c m => m.T
  | .agg ms => HT ms
  | .ptr ms => HT ms
@[reducible] def HP : List PM → Type
  | [] => Unit
  | p :: ps => p.T × HP ps

/-! ### What it says of the world -/
def RowV (w : World) (p : Pl) (es n : Nat) (v : Value) : Prop :=
  (p = .virt ∧ n = 0 ∧ v = .slice none 0 0) ∨ ∃ b off x cap, p = .at b off ∧ v = .slice (some ⟨b, x, none⟩) n cap ∧ (n ≠ 0 → x = off) ∧ n ≤ cap ∧ Cells w b (x + cap * es)
def RowO (Z : ZS) (w : World) (p : Pl) (fz : Bool) (t : Ty) (xs : List t.T) : Prop :=
  (p = .virt ∧ xs = []) ∨ ∃ b off, p = .at b off ∧ (∀ y, Z b y → fz = true ∧ off ≤ y ∧ y < off + xs.length * t.size) ∧ Cells w b (off + xs.length * t.size) ∧
      ∀ (i : Nat) (x : t.T), xs[i]? = some x → ∃ us, RepT Z w t x us ∧ ∀ (j : Nat) (u : Value), us[j]? = some u → w.cell? ⟨b, off + (i * t.size + j), none⟩ = some u

def SemM (Z : ZS) (w : World) : (m : M1) → m.T → List Value → List Pl → Prop
  | .dat t, x, vs, pls => RepT Z w t x vs ∧ pls = []
  | .own fz t, xs, vs, pls => ∃ p v, vs = [v] ∧ pls = [p] ∧ RowV w p t.size (List.length xs) v ∧ RowO Z w p fz t xs

def SemMs (Z : ZS) (w : World) : (ms : List M1) → HT ms → List Value → List Pl → Prop
  | [], _, vs, pls => vs = [] ∧ pls = []
  | m :: ms, x, vs, pls => ∃ v1 v2 p1 p2, vs = v1 ++ v2 ∧ pls = p1 ++ p2 ∧ SemM Z w m x.1 v1 p1 ∧ SemMs Z w ms x.2 v2 p2

/-- A box's cells. -/
def BoxO (Z : ZS) (w : World) (b off : Nat) (us : List Value) : Prop :=
  (∀ y, ¬ Z b y) ∧ Cells w b (off + us.length) ∧ ∀ (j : Nat) (u : Value), us[j]? = some u → w.cell? ⟨b, off + j, none⟩ = some u ∧ one u = true

def SemP (Z : ZS) (w : World) : (p : PM) → p.T → Value → List Pl → Prop
  | .c m, x, v, pls => SemM Z w m x [v] pls
  | .agg ms, x, v, pls => ∃ vs, v = .agg vs.toArray ∧ SemMs Z w ms x vs pls
  | .ptr ms, x, v, pls => ∃ b off us pls', v = .pointer (some ⟨b, off, none⟩) ∧ pls = .at b off :: pls' ∧ BoxO Z w b off us ∧ SemMs Z w ms x us pls'

def SemPs (Z : ZS) (w : World) : (ps : List PM) → HP ps → List Value → List Pl → Prop
  | [], _, vs, pls => vs = [] ∧ pls = []
  | p :: ps, x, vs, pls => ∃ v vs' p1 p2, vs = v :: vs' ∧ pls = p1 ++ p2 ∧ SemP Z w p x.1 v p1 ∧ SemPs Z w ps x.2 vs' p2

/-! ### Placing values into a frame -/
def plM (k : Nat) : (m : M1) → m.T → List C × List (Nat × Obj) × Nat
  | .dat t, x => (enc t x, [], k)
  | .own fz t, xs => ([.all k t.size], [(k, .row fz t xs)], k + 1)
def plMs (k : Nat) : (ms : List M1) → HT ms → List C × List (Nat × Obj) × Nat
  | [], _ => ([], [], k)
  | m :: ms, x => match plM k m x.1 with
    | (c1, o1, k1) => match plMs k1 ms x.2 with
      | (c2, o2, k2) => (c1 ++ c2, o1 ++ o2, k2)
def plP (k : Nat) : (p : PM) → p.T → FV × List (Nat × Obj) × Nat
  | .c m, x => match plM k m x with
    | (cs, os, k') => (mkv false cs, os, k')
  | .agg ms, x => match plMs k ms x with
    | (cs, os, k') => (.agg cs, os, k')
  | .ptr ms, x => match plMs (k + 1) ms x with
    | (cs, os, k') => (.pb k 0, (k, .box cs) :: os, k')
def plPs (k : Nat) : (ps : List PM) → HP ps → List FV × List (Nat × Obj) × Nat
  | [], _ => ([], [], k)
  | p :: ps, x => match plP k p x.1 with
    | (f, o1, k1) => match plPs k1 ps x.2 with
      | (fs, o2, k2) => (f :: fs, o1 ++ o2, k2)

section
variable {E : Env} {w : World}

theorem RowV.rep {p : Pl} {o es n : Nat} {v : Value} (hp : E.ρ o = some p) (h : RowV w p es n v) : RepRow E.ρ w o es 0 n v := by
  rcases h with ⟨rfl, h1, h2⟩ | ⟨b, off, x, cap, rfl, h1, h2, h3, h4⟩
  · exact .inl ⟨hp, h1, h2⟩
  · exact .inr ⟨b, off, x, cap, hp, h1, fun h => by rw [h2 h]; omega, h3, h4⟩
theorem RowO.obj {p : Pl} {o : Nat} {fz : Bool} {t : Ty} {xs : List t.T} (hp : E.ρ o = some p) (h : RowO E.Z w p fz t xs) : ObjRel E w o (.row fz t xs) := by
  rcases h with ⟨rfl, h1⟩ | ⟨b, off, rfl, h1⟩
  · exact Or.inl ⟨hp, h1⟩
  · exact Or.inr ⟨b, off, hp, h1⟩

/-- Places by number, from one on. -/
abbrev At (ρ : Place) (k : Nat) (pls : List Pl) : Prop := ∀ (i : Nat) (p : Pl), pls[i]? = some p → ρ (k + i) = some p
theorem At.left {ρ : Place} {k : Nat} {p q : List Pl} (h : At ρ k (p ++ q)) : At ρ k p := fun i x hx => h i x (by rw [List.getElem?_append_left (List.getElem?_eq_some_iff.1 hx).1]; exact hx)
theorem At.right {ρ : Place} {k : Nat} {p q : List Pl} (h : At ρ k (p ++ q)) : At ρ (k + p.length) q := fun i x hx => by
  rw [Nat.add_assoc]
  exact h _ x (by rw [List.getElem?_append_right (by omega)]; simpa using hx)

theorem plM_ok {k : Nat} {m : M1} {x : m.T} {vs : List Value} {pls : List Pl} (h : SemM E.Z w m x vs pls) (hρ : At E.ρ k pls) (hH : ∀ o ob, (o, ob) ∈ (plM k m x).2.1 → E.H o = some ob) :
    RepCs E w (plM k m x).1 vs ∧ (plM k m x).2.2 = k + pls.length ∧ (∀ o ob, (o, ob) ∈ (plM k m x).2.1 → ObjRel E w o ob ∧ ∃ i p, pls[i]? = some p ∧ o = k + i) ∧ (plM k m x).2.1.map (·.1) = List.range' k pls.length := by
  cases m with
  | dat t =>
    obtain ⟨h1, rfl⟩ := h
    exact ⟨enc_rep t x vs h1, rfl, fun o ob ho => by simp [plM] at ho, rfl⟩
  | own fz t =>
    obtain ⟨p, v, rfl, rfl, h1, h2⟩ := h
    have hp := hρ 0 p rfl
    simp only [Nat.add_zero] at hp
    have hHk := hH k (.row fz t x) (by simp [plM])
    refine ⟨RepCs.single ⟨_, h1.rep hp, fun fz' t' xs' hh => ?_⟩, rfl, fun o ob ho => ?_, rfl⟩
    · rw [hHk] at hh; cases hh; rfl
    · simp only [plM, List.mem_singleton, Prod.mk.injEq] at ho
      obtain ⟨rfl, rfl⟩ := ho
      exact ⟨h2.obj hp, 0, p, rfl, rfl⟩

theorem range'_app (k a b : Nat) : List.range' k a ++ List.range' (k + a) b = List.range' k (a + b) := by
  have := List.range'_append (s := k) (m := a) (n := b) (step := 1)
  simp only [Nat.one_mul] at this
  exact this

theorem plMs_ok : ∀ {ms : List M1} {k : Nat} {x : HT ms} {vs : List Value} {pls : List Pl}, SemMs E.Z w ms x vs pls → At E.ρ k pls → (∀ o ob, (o, ob) ∈ (plMs k ms x).2.1 → E.H o = some ob) →
    RepCs E w (plMs k ms x).1 vs ∧ (plMs k ms x).2.2 = k + pls.length ∧ (∀ o ob, (o, ob) ∈ (plMs k ms x).2.1 → ObjRel E w o ob ∧ ∃ i p, pls[i]? = some p ∧ o = k + i) ∧ (plMs k ms x).2.1.map (·.1) = List.range' k pls.length
  | [], k, x, vs, pls, h, hρ, hH => by
    obtain ⟨rfl, rfl⟩ := h
    exact ⟨RepCs.nil, rfl, fun o ob ho => by simp [plMs] at ho, rfl⟩
  | m :: ms, k, x, vs, pls, h, hρ, hH => by
    obtain ⟨v1, v2, p1, p2, rfl, rfl, h1, h2⟩ := h
    have e1 := plM_ok (k := k) h1 hρ.left (fun o ob ho => hH o ob (List.mem_append_left _ ho))
    obtain ⟨a1, a2, a3, a4⟩ := e1
    have e2 := plMs_ok (k := (plM k m x.1).2.2) h2 (by rw [a2]; exact hρ.right) (fun o ob ho => hH o ob (List.mem_append_right _ ho))
    obtain ⟨b1, b2, b3, b4⟩ := e2
    refine ⟨a1.append b1, ?_, fun o ob ho => ?_, ?_⟩
    · show (plMs (plM k m x.1).2.2 ms x.2).2.2 = _
      rw [b2, a2, List.length_append]; omega
    · rcases List.mem_append.1 ho with ho | ho
      · obtain ⟨c1, i, p, c2, c3⟩ := a3 o ob ho
        exact ⟨c1, i, p, by rw [List.getElem?_append_left (List.getElem?_eq_some_iff.1 c2).1]; exact c2, c3⟩
      · obtain ⟨c1, i, p, c2, c3⟩ := b3 o ob ho
        refine ⟨c1, p1.length + i, p, by rw [List.getElem?_append_right (by omega)]; simpa using c2, ?_⟩
        rw [c3, a2]; omega
    · show ((plM k m x.1).2.1 ++ (plMs (plM k m x.1).2.2 ms x.2).2.1).map (·.1) = _
      rw [List.map_append, a4, b4, a2, range'_app, List.length_append]

theorem plP_ok : ∀ {p : PM} {k : Nat} {x : p.T} {v : Value} {pls : List Pl}, SemP E.Z w p x v pls → At E.ρ k pls → (∀ o ob, (o, ob) ∈ (plP k p x).2.1 → E.H o = some ob) →
    RepFV E w (plP k p x).1 v ∧ (plP k p x).2.2 = k + pls.length ∧ (∀ o ob, (o, ob) ∈ (plP k p x).2.1 → ObjRel E w o ob ∧ ∃ i p, pls[i]? = some p ∧ o = k + i) ∧ (plP k p x).2.1.map (·.1) = List.range' k pls.length
  | .c m, k, x, v, pls, h, hρ, hH => by
    obtain ⟨a1, a2, a3, a4⟩ := plM_ok (k := k) (m := m) (x := x) h hρ hH
    refine ⟨?_, a2, a3, a4⟩
    show RepFV E w (mkv false (plM k m x).1) v
    have hl := a1.1
    match hcs : (plM k m x).1, a1 with
    | [], a1 => rw [hcs] at hl; simp at hl
    | [c], a1 =>
      obtain ⟨u, us, e, h1, _⟩ := a1.uncons
      cases e
      unfold mkv RepFV
      exact h1
    | _ :: _ :: _, a1 => rw [hcs] at hl; simp at hl
  | .agg ms, k, x, v, pls, h, hρ, hH => by
    obtain ⟨vs, rfl, h⟩ := h
    obtain ⟨a1, a2, a3, a4⟩ := plMs_ok (k := k) h hρ hH
    refine ⟨?_, a2, a3, a4⟩
    show RepFV E w (.agg (plMs k ms x).1) _
    unfold RepFV
    exact ⟨vs, rfl, a1⟩
  | .ptr ms, k, x, v, pls, h, hρ, hH => by
    obtain ⟨b, off, us, pls', rfl, rfl, hbox, h⟩ := h
    have hp := hρ 0 _ rfl
    simp only [Nat.add_zero] at hp
    obtain ⟨a1, a2, a3, a4⟩ := plMs_ok (k := k + 1) h (fun i p hi => by rw [Nat.add_assoc, Nat.add_comm 1 i]; exact hρ (i + 1) p hi) (fun o ob ho => hH o ob (List.mem_cons_of_mem _ ho))
    refine ⟨?_, ?_, fun o ob ho => ?_, ?_⟩
    · show RepFV E w (.pb k 0) _
      unfold RepFV
      exact ⟨b, off, hp, rfl⟩
    · show (plMs (k + 1) ms x).2.2 = _
      rw [a2, List.length_cons]; omega
    · rcases List.mem_cons.1 ho with ho | ho
      · simp only [Prod.mk.injEq] at ho
        obtain ⟨rfl, rfl⟩ := ho
        refine ⟨⟨b, off, hp, hbox.1, by rw [← a1.1]; exact hbox.2.1, fun j c hj => ?_⟩, 0, _, rfl, rfl⟩
        have hlt : j < us.length := by rw [a1.1]; exact (List.getElem?_eq_some_iff.1 hj).1
        obtain ⟨h1, h2⟩ := hbox.2.2 j _ (List.getElem?_eq_getElem hlt)
        exact ⟨_, h1, h2, a1.2 j c _ hj (List.getElem?_eq_getElem hlt)⟩
      · obtain ⟨c1, i, p, c2, c3⟩ := a3 o ob ho
        exact ⟨c1, i + 1, p, c2, by omega⟩
    · show (k :: (plMs (k + 1) ms x).2.1.map (·.1)) = _
      rw [a4, List.length_cons, List.range'_succ]

theorem plPs_ok : ∀ {ps : List PM} {k : Nat} {x : HP ps} {vs : List Value} {pls : List Pl}, SemPs E.Z w ps x vs pls → At E.ρ k pls → (∀ o ob, (o, ob) ∈ (plPs k ps x).2.1 → E.H o = some ob) →
    RepFVs E w (plPs k ps x).1 vs ∧ (plPs k ps x).2.2 = k + pls.length ∧ (∀ o ob, (o, ob) ∈ (plPs k ps x).2.1 → ObjRel E w o ob ∧ ∃ i p, pls[i]? = some p ∧ o = k + i) ∧ (plPs k ps x).2.1.map (·.1) = List.range' k pls.length
  | [], k, x, vs, pls, h, hρ, hH => by
    obtain ⟨rfl, rfl⟩ := h
    exact ⟨by unfold plPs RepFVs; rfl, rfl, fun o ob ho => by simp [plPs] at ho, rfl⟩
  | p :: ps, k, x, vs, pls, h, hρ, hH => by
    obtain ⟨v, vs', p1, p2, rfl, rfl, h1, h2⟩ := h
    obtain ⟨a1, a2, a3, a4⟩ := plP_ok (k := k) h1 hρ.left (fun o ob ho => hH o ob (List.mem_append_left _ ho))
    obtain ⟨b1, b2, b3, b4⟩ := plPs_ok (k := (plP k p x.1).2.2) h2 (by rw [a2]; exact hρ.right) (fun o ob ho => hH o ob (List.mem_append_right _ ho))
    refine ⟨?_, ?_, fun o ob ho => ?_, ?_⟩
    · show RepFVs E w ((plP k p x.1).1 :: (plPs (plP k p x.1).2.2 ps x.2).1) _
      unfold RepFVs
      exact ⟨v, vs', rfl, a1, b1⟩
    · show (plPs (plP k p x.1).2.2 ps x.2).2.2 = _
      rw [b2, a2, List.length_append]; omega
    · rcases List.mem_append.1 ho with ho | ho
      · obtain ⟨c1, i, q, c2, c3⟩ := a3 o ob ho
        exact ⟨c1, i, q, by rw [List.getElem?_append_left (List.getElem?_eq_some_iff.1 c2).1]; exact c2, c3⟩
      · obtain ⟨c1, i, q, c2, c3⟩ := b3 o ob ho
        refine ⟨c1, p1.length + i, q, by rw [List.getElem?_append_right (by omega)]; simpa using c2, ?_⟩
        rw [c3, a2]; omega
    · show ((plP k p x.1).2.1 ++ (plPs (plP k p x.1).2.2 ps x.2).2.1).map (·.1) = _
      rw [List.map_append, a4, b4, a2, range'_app, List.length_append]
end

/-! ### Taking values out of a frame -/
/-- What of a list belongs to data. -/
def dcM {α : Type} : List M1 → List α → List α
  | [], _ => []
  | .dat t :: ms, cs => cs.take t.size ++ dcM ms (cs.drop t.size)
  | .own _ _ :: ms, cs => dcM ms (cs.drop 1)

def cellsP (H : Hp) (p : PM) (f : FV) : Option (List C) := match p, f with
  | .c _, .c x => some [x]
  | .agg _, .agg cs => some cs
  | .ptr _, .pb o 0 => match H o with
    | some (.box cs) => some cs
    | _ => none
  | _, _ => none
def dcPs (H : Hp) : List PM → List FV → Option (List C)
  | [], [] => some []
  | p :: ps, f :: fs => match cellsP H p f with
    | some cs => match dcPs H ps fs with
      | some r => some (dcM p.ms cs ++ r)
      | none => none
    | none => none
  | _, _ => none

/-- The values of cells; the data's cells are taken from a second list; where the rows of one's own come from. -/
def tkMs (H : Hp) : (ms : List M1) → List C → List C → Option (HT ms × List C × List (Option Nat))
  | [], [], ds => some ((), ds, [])
  | [], _ :: _, _ => none
  | .dat t :: ms, cs, ds => match Nat.ble t.size cs.length with
    | true => match dec t (ds.take t.size) with
      | some x => match tkMs H ms (cs.drop t.size) (ds.drop t.size) with
        | some (r, ds', ss) => some ((x, r), ds', ss)
        | none => none
      | none => none
    | false => none
  | .own fz t :: ms, c :: cs, ds => match c with
    | .all o es => match H o with
      | some (.row fz' t' xs) => if h : t' = t then if fz' = true → fz = true then match Nat.beq es t.size with
          | true => match tkMs H ms cs ds with
            | some (r, ds', ss) => some ((h ▸ xs, r), ds', some o :: ss)
            | none => none
          | false => none
          else none
        else none
      | _ => none
    | .v (.slice none 0 0) => match tkMs H ms cs ds with
      | some (r, ds', ss) => some (([], r), ds', none :: ss)
      | none => none
    | _ => none
  | .own _ _ :: _, [], _ => none

def tkP (H0 H : Hp) (p : PM) (f : FV) (ds : List C) : Option (p.T × List C × List (Option Nat)) := match p with
  | .c m => match cellsP H0 (.c m) f with
    | some cs => match tkMs H [m] cs ds with
      | some (x, ds', ss) => some (x.1, ds', ss)
      | none => none
    | none => none
  | .agg ms => match cellsP H0 (.agg ms) f with
    | some cs => tkMs H ms cs ds
    | none => none
  | .ptr ms => match f with
    | .pb o 0 => match cellsP H0 (.ptr ms) (.pb o 0) with
      | some cs => match tkMs H ms cs ds with
        | some (x, ds', ss) => some (x, ds', some o :: ss)
        | none => none
      | none => none
    | _ => none
def tkPs (H0 H : Hp) : (ps : List PM) → List FV → List C → Option (HP ps × List (Option Nat))
  | [], [], [] => some ((), [])
  | p :: ps, f :: fs, ds => match tkP H0 H p f ds with
    | some (x, ds', ss) => match tkPs H0 H ps fs ds' with
      | some (r, ss') => some ((x, r), ss ++ ss')
      | none => none
    | none => none
  | _, _, _ => none

def memN (n : Nat) : List (Option Nat) → Bool
  | [] => false
  | some m :: r => Nat.beq n m || memN n r
  | none :: r => memN n r
def nodupS : List (Option Nat) → Bool
  | [] => true
  | some n :: r => !memN n r && nodupS r
  | none :: r => nodupS r

structure Taken (ps : List PM) where
  x : HP ps
  puts : List (Nat × Obj)
  srcs : List (Option Nat)

def take (H : Hp) (ps : List PM) (fs : List FV) : Option (Taken ps) := match dcPs H ps fs with
  | some dcs => match frz H dcs with
    | some (ds, puts) => match tkPs H (putsH puts H) ps fs ds with
      | some (x, ss) => match nodupS ss with
        | true => some ⟨x, puts, ss⟩
        | false => none
      | none => none
    | none => none
  | none => none
end Eng
end Go.Proofs.Ytjhcdndmbilogaa
