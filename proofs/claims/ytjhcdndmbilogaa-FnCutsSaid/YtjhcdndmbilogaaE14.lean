/-
  The engine, part 14: contracts, and what a call does.
  CONDITIONS: those that each theorem names.
-/
import Derived.Test.YtjhcdndmbilogaaE13
namespace Go.Proofs.Ytjhcdndmbilogaa
namespace Eng
open Go Go.RowKit
set_option linter.unusedVariables false
set_option linter.unusedSimpArgs false

/-- The boxes that a function may change. -/
@[reducible] def outsP : List PM → List PM
  | [] => []
  | .ptr ms :: ps => .ptr ms :: outsP ps
  | .c _ :: ps => outsP ps
  | .agg _ :: ps => outsP ps
/-- The pointers among the values. -/
def pv : List PM → List Value → List Value
  | .ptr _ :: ps, v :: vs => v :: pv ps vs
  | .c _ :: ps, _ :: vs => pv ps vs
  | .agg _ :: ps, _ :: vs => pv ps vs
  | _, _ => []

def Ret : List PM → Value → List Value → Prop
  | [_], v, r => r = [v]
  | _, v, r => v = .tuple r.toArray

/-- What a function does, in terms of data. -/
structure Con (P : Program) (J : World → Prop) (G : Nat) (f : FuncId) (ps rs : List PM) (den : HP ps → Option (HP rs × HP (outsP ps))) : Prop where
  call : ∀ args w, (callFunc f args).run P w = .ok (.enter f args) w
  ok : ∀ x y, den x = some y → ∀ (w : World) (Z : ZS) (vals : List Value) (pls : List Pl), Stable J G → J w → G ≤ w.heap.size → SemPs Z w ps x vals pls → PlOk G w pls → (∀ b y, Z b y → b < w.heap.size) →
    Calls P f vals.toArray w fun e w' => ∃ v rvals Z' pl1 pl2, e = .returned v ∧ Ret rs v rvals ∧ ZLe Z Z' ∧ Keeps Z w w' ∧ (∀ b y, Z' b y → b < w'.heap.size) ∧
      (∀ b y, Z' b y → Z b y ∨ w.heap.size ≤ b ∨ inPl pls b) ∧ Fr (inPl pls) w w' ∧ J w' ∧ SemPs Z' w' rs y.1 rvals pl1 ∧ SemPs Z' w' (outsP ps) y.2 (pv ps vals) pl2 ∧ PlOk G w' (pl1 ++ pl2) ∧
      ∀ b, inPl (pl1 ++ pl2) b → w.heap.size ≤ b ∨ inPl pls b

def retFV : List PM → List FV → FV
  | [_], [f] => f
  | _, fs => .tup fs

/-- The boxes anew: what is put, and how far the numbers go. -/
def outE (k : Nat) : (ps : List PM) → List FV → HP (outsP ps) → Option (List (Nat × Obj) × Nat)
  | [], _, _ => some ([], k)
  | .ptr ms :: ps, f :: fs, y => match f with
    | .pb o 0 => match plMs k ms y.1 with
      | (cs, os, k1) => match outE k1 ps fs y.2 with
        | some (r, k2) => some ((o, .box cs) :: (os ++ r), k2)
        | none => none
    | _ => none
  | .c _ :: ps, _ :: fs, y => outE k ps fs y
  | .agg _ :: ps, _ :: fs, y => outE k ps fs y
  | _ :: _, [], _ => none

def idsS : List (Option Nat) → List Nat
  | [] => []
  | some n :: r => n :: idsS r
  | none :: r => idsS r

def callEff (nid : Nat) (ps rs : List PM) (fs : List FV) (tk : Taken ps) (y : HP rs × HP (outsP ps)) : Option Eff :=
  match plPs nid rs y.1 with
  | (rfv, robjs, n1) => match outE n1 ps fs y.2 with
    | some (op, n2) => match Nat.ble n2 (nid + 64) with
      | true => some { val := retFV rs rfv, del := idsS tk.srcs, put := robjs ++ (op ++ tk.puts.filter fun p => !memN p.1 tk.srcs), rd := idsS tk.srcs ++ tk.puts.map (·.1) }
      | false => none
    | none => none

theorem idsS_mem : ∀ {ss : List (Option Nat)} {n : Nat}, n ∈ idsS ss ↔ some n ∈ ss
  | [], n => by simp [idsS]
  | some m :: r, n => by simp [idsS, idsS_mem (ss := r)]
  | none :: r, n => by simp [idsS, idsS_mem (ss := r)]

section
variable {K : Ctx} {E : Env} {U : Nat → Prop} {w : World}

theorem plMs_num (k : Nat) : ∀ {ms : List M1} {x : HT ms} {vs : List Value} {pls : List Pl} {Z : ZS}, SemMs Z w ms x vs pls → ∀ o ob, (o, ob) ∈ (plMs k ms x).2.1 → k ≤ o ∧ o < k + pls.length := fun h o ob ho => by
  have := (plMs_nums (k := k) h).2
  have h2 : o ∈ (plMs k _ _).2.1.map (·.1) := List.mem_map.2 ⟨_, ho, rfl⟩
  rw [this, List.mem_range'_1] at h2
  exact h2

/-- The boxes behind a call. -/
theorem outE_ok : ∀ {ps : List PM} {k k2 : Nat} {fs : List FV} {vals : List Value} {y : HP (outsP ps)} {op : List (Nat × Obj)} {pls : List Pl}, outE k ps fs y = some (op, k2) → RepFVs E w fs vals → SemPs E.Z w (outsP ps) y (pv ps vals) pls →
    (∀ (i : Nat) (id : Nat) (p : Pl), (op.map (·.1))[i]? = some id → pls[i]? = some p → E.ρ id = some p) → (∀ o ob, (o, ob) ∈ op → E.H o = some ob) →
    (∀ o ob, (o, ob) ∈ op → ObjRel E w o ob)
  | [], k, k2, fs, vals, y, op, pls, h, hf, hs, hρ, hH => by
    simp only [outE, Option.some.injEq, Prod.mk.injEq] at h
    obtain ⟨rfl, _⟩ := h
    intro o ob ho
    simp at ho
  | .c m :: ps, k, k2, fs, vals, y, op, pls, h, hf, hs, hρ, hH => by
    cases fs with
    | nil => simp [outE] at h
    | cons f fs =>
      unfold RepFVs at hf
      obtain ⟨v, vs, rfl, _, hf⟩ := hf
      exact outE_ok (ps := ps) h hf hs hρ hH
  | .agg m :: ps, k, k2, fs, vals, y, op, pls, h, hf, hs, hρ, hH => by
    cases fs with
    | nil => simp [outE] at h
    | cons f fs =>
      unfold RepFVs at hf
      obtain ⟨v, vs, rfl, _, hf⟩ := hf
      exact outE_ok (ps := ps) h hf hs hρ hH
  | .ptr ms :: ps, k, k2, fs, vals, y, op, pls, h, hf, hs, hρ, hH => by
    cases fs with
    | nil => simp [outE] at h
    | cons f fs =>
      unfold RepFVs at hf
      obtain ⟨v, vs, rfl, hf1, hf⟩ := hf
      obtain ⟨cs, os, k1, hpl⟩ : ∃ cs os k1, plMs k ms y.1 = (cs, os, k1) := ⟨_, _, _, rfl⟩
      simp only [outE, hpl] at h
      split at h
      · rename_i o
        split at h
        · rename_i r k3 hr
          simp only [Option.some.injEq, Prod.mk.injEq] at h
          obtain ⟨rfl, rfl⟩ := h
          obtain ⟨v', vs', p1, p2, e1, rfl, hs1, hs2⟩ := hs
          simp only [pv, List.cons.injEq] at e1
          obtain ⟨rfl, rfl⟩ := e1
          obtain ⟨b, off, us, pls', rfl, rfl, hbox, hms⟩ := hs1
          obtain ⟨n1, n2⟩ := plMs_nums (k := k) hms
          rw [hpl] at n1 n2
          simp only at n1 n2
          have hosl : os.length = pls'.length := by have := congrArg List.length n2; simpa using this
          have hpo : E.ρ o = some (.at b off) := hρ 0 o _ rfl rfl
          have hat : At E.ρ k pls' := fun i p hi => by
            have hlt := (List.getElem?_eq_some_iff.1 hi).1
            refine hρ (i + 1) (k + i) p ?_ ?_
            · simp only [List.map_cons, List.map_append, List.getElem?_cons_succ]
              rw [List.getElem?_append_left (by simp; omega), n2]
              simp [hlt]
            · simp only [List.cons_append, List.getElem?_cons_succ]
              rw [List.getElem?_append_left hlt]; exact hi
          have hpe := plMs_ok (E := E) (w := w) (k := k) hms hat (by rw [hpl]; exact fun o' ob' ho' => hH o' ob' (List.mem_cons_of_mem _ (List.mem_append_left _ ho')))
          rw [hpl] at hpe
          obtain ⟨a1, a2, a3, a4⟩ := hpe
          intro o' ob' ho'
          rcases List.mem_cons.1 ho' with ho' | ho'
          · cases ho'
            refine ⟨b, off, hpo, hbox.1, by rw [← a1.1]; exact hbox.2.1, fun j c hj => ?_⟩
            have hlt : j < us.length := by rw [a1.1]; exact (List.getElem?_eq_some_iff.1 hj).1
            obtain ⟨h1, h2⟩ := hbox.2.2 j _ (List.getElem?_eq_getElem hlt)
            exact ⟨_, h1, h2, a1.2 j c _ hj (List.getElem?_eq_getElem hlt)⟩
          · rcases List.mem_append.1 ho' with ho' | ho'
            · exact (a3 o' ob' ho').1
            · refine outE_ok (ps := ps) hr hf hs2 (fun i id p hi hp => hρ (i + 1 + os.length) id p ?_ ?_) (fun o2 ob2 h2 => hH o2 ob2 (List.mem_cons_of_mem _ (List.mem_append_right _ h2))) o' ob' ho'
              · simp only [List.map_cons, List.map_append]
                rw [show i + 1 + os.length = (os.length + i) + 1 by omega, List.getElem?_cons_succ, List.getElem?_append_right (by simp)]
                simpa using hi
              · rw [show i + 1 + os.length = (os.length + i) + 1 by omega, List.cons_append, List.getElem?_cons_succ, List.getElem?_append_right (by omega)]
                rw [show os.length + i - pls'.length = i by omega]
                exact hp
        · cases h
      · cases h

/-- The numbers of what is put behind a call: old boxes, and new numbers in order. -/
theorem outE_ids {Z : ZS} {w2 : World} : ∀ {ps : List PM} {k k2 : Nat} {fs : List FV} {vals : List Value} {y : HP (outsP ps)} {op : List (Nat × Obj)} {pls : List Pl}, outE k ps fs y = some (op, k2) → RepFVs E w fs vals → SemPs Z w2 (outsP ps) y (pv ps vals) pls →
    op.length = pls.length ∧ k ≤ k2 ∧
    (∀ (i id : Nat), (op.map (·.1))[i]? = some id → (k ≤ id ∧ id < k2) ∨ (∃ f ∈ fs, f = .pb id 0) ∧ ∃ b off cs, E.ρ id = some (.at b off) ∧ pls[i]? = some (.at b off) ∧ op[i]? = some (id, .box cs)) ∧
    (∀ (i j id : Nat), (op.map (·.1))[i]? = some id → (op.map (·.1))[j]? = some id → k ≤ id → id < k2 → (∀ f ∈ fs, f ≠ .pb id 0) → i = j)
  | [], k, k2, fs, vals, y, op, pls, h, hf, hs => by
    simp only [outE, Option.some.injEq, Prod.mk.injEq] at h
    obtain ⟨rfl, rfl⟩ := h
    obtain ⟨_, rfl⟩ := hs
    exact ⟨rfl, Nat.le_refl _, fun i id hi => by simp at hi, fun i j id hi => by simp at hi⟩
  | .c m :: ps, k, k2, fs, vals, y, op, pls, h, hf, hs => by
    cases fs with
    | nil => simp [outE] at h
    | cons f fs =>
      unfold RepFVs at hf
      obtain ⟨v, vs, rfl, _, hf⟩ := hf
      obtain ⟨h1, h2, h3, h4⟩ := outE_ids (ps := ps) h hf hs
      refine ⟨h1, h2, fun i id hi => ?_, fun i j id hi hj hk hk2 hn => h4 i j id hi hj hk hk2 (fun f' hf' => hn f' (List.mem_cons_of_mem _ hf'))⟩
      rcases h3 i id hi with h | ⟨⟨f', hf', e⟩, h⟩
      · exact .inl h
      · exact .inr ⟨⟨f', List.mem_cons_of_mem _ hf', e⟩, h⟩
  | .agg m :: ps, k, k2, fs, vals, y, op, pls, h, hf, hs => by
    cases fs with
    | nil => simp [outE] at h
    | cons f fs =>
      unfold RepFVs at hf
      obtain ⟨v, vs, rfl, _, hf⟩ := hf
      obtain ⟨h1, h2, h3, h4⟩ := outE_ids (ps := ps) h hf hs
      refine ⟨h1, h2, fun i id hi => ?_, fun i j id hi hj hk hk2 hn => h4 i j id hi hj hk hk2 (fun f' hf' => hn f' (List.mem_cons_of_mem _ hf'))⟩
      rcases h3 i id hi with h | ⟨⟨f', hf', e⟩, h⟩
      · exact .inl h
      · exact .inr ⟨⟨f', List.mem_cons_of_mem _ hf', e⟩, h⟩
  | .ptr ms :: ps, k, k2, fs, vals, y, op, pls, h, hf, hs => by
    cases fs with
    | nil => simp [outE] at h
    | cons f fs =>
      unfold RepFVs at hf
      obtain ⟨v, vs, rfl, hf1, hf⟩ := hf
      obtain ⟨cs, os, k1, hpl⟩ : ∃ cs os k1, plMs k ms y.1 = (cs, os, k1) := ⟨_, _, _, rfl⟩
      simp only [outE, hpl] at h
      split at h
      · rename_i o
        split at h
        · rename_i r k3 hr
          simp only [Option.some.injEq, Prod.mk.injEq] at h
          obtain ⟨rfl, rfl⟩ := h
          obtain ⟨v', vs', p1, p2, e1, rfl, hs1, hs2⟩ := hs
          simp only [pv, List.cons.injEq] at e1
          obtain ⟨rfl, rfl⟩ := e1
          obtain ⟨b, off, us, pls', rfl, rfl, hbox, hms⟩ := hs1
          obtain ⟨n1, n2⟩ := plMs_nums (k := k) hms
          rw [hpl] at n1 n2
          simp only at n1 n2
          have hosl : os.length = pls'.length := by have := congrArg List.length n2; simpa using this
          unfold RepFV at hf1
          obtain ⟨b', off', hpo, he⟩ := hf1
          simp only [Nat.add_zero, Value.pointer.injEq, Option.some.injEq, Addr.mk.injEq, and_true] at he
          obtain ⟨rfl, rfl⟩ := he
          obtain ⟨i1, i2, i3, i4⟩ := outE_ids (ps := ps) hr hf hs2
          have split3 : ∀ (i id : Nat), (((o, Obj.box cs) :: (os ++ r)).map (·.1))[i]? = some id → (i = 0 ∧ id = o) ∨ (∃ j, i = j + 1 ∧ j < os.length ∧ id = k + j) ∨ ∃ j, i = j + 1 + os.length ∧ (r.map (·.1))[j]? = some id := fun i id hi => by
            cases i with
            | zero => simp at hi; exact .inl ⟨rfl, hi.symm⟩
            | succ i =>
              simp only [List.map_cons, List.getElem?_cons_succ, List.map_append] at hi
              by_cases hlt : i < os.length
              · rw [List.getElem?_append_left (by simpa using hlt), n2] at hi
                rw [hosl] at hlt
                simp [hlt] at hi
                exact .inr (.inl ⟨i, rfl, by omega, hi.symm⟩)
              · rw [List.getElem?_append_right (by simp; omega)] at hi
                exact .inr (.inr ⟨i - os.length, by omega, by simpa using hi⟩)
          refine ⟨by simp [hosl, i1], by omega, fun i id hi => ?_, fun i j id hi hj hk hk2 hn => ?_⟩
          · rcases split3 i id hi with ⟨rfl, rfl⟩ | ⟨j, rfl, hj, rfl⟩ | ⟨j, rfl, hj⟩
            · exact .inr ⟨⟨_, List.mem_cons_self, rfl⟩, b, off, cs, hpo, rfl, rfl⟩
            · exact .inl ⟨by omega, by omega⟩
            · rcases i3 j id hj with h | ⟨⟨f', hf', e⟩, b2, off2, cs2, g1, g2, g3⟩
              · exact .inl ⟨by omega, h.2⟩
              · refine .inr ⟨⟨f', List.mem_cons_of_mem _ hf', e⟩, b2, off2, cs2, g1, ?_, ?_⟩
                · rw [show j + 1 + os.length = (os.length + j) + 1 by omega, List.cons_append, List.getElem?_cons_succ, List.getElem?_append_right (by omega)]
                  rw [show os.length + j - pls'.length = j by omega]
                  exact g2
                · rw [show j + 1 + os.length = (os.length + j) + 1 by omega, List.getElem?_cons_succ, List.getElem?_append_right (by omega)]
                  rw [show os.length + j - os.length = j by omega]
                  exact g3
          · have hno : id ≠ o := fun e => hn _ List.mem_cons_self (by rw [e])
            have hn' : ∀ f ∈ fs, f ≠ .pb id 0 := fun f hf => hn f (List.mem_cons_of_mem _ hf)
            have hge : ∀ (j : Nat), (r.map (·.1))[j]? = some id → k1 ≤ id ∧ id < k3 := fun j hj => by
              rcases i3 j id hj with h | ⟨⟨f', hf', e⟩, _⟩
              · exact h
              · exact absurd e (hn' f' hf')
            rcases split3 i id hi with ⟨rfl, rfl⟩ | ⟨i', rfl, hi', rfl⟩ | ⟨i', rfl, hi'⟩
            · exact absurd rfl hno
            · rcases split3 j _ hj with ⟨rfl, e⟩ | ⟨j', rfl, hj', e⟩ | ⟨j', rfl, hj'⟩
              · exact absurd e hno
              · omega
              · have := hge j' hj'; omega
            · rcases split3 j id hj with ⟨rfl, e⟩ | ⟨j', rfl, hj', rfl⟩ | ⟨j', rfl, hj'⟩
              · exact absurd e hno
              · have := hge i' hi'; omega
              · rw [i4 i' j' id hi' hj' (hge i' hi').1 (hge i' hi').2 hn']
        · cases h
      · cases h
end
end Eng
end Go.Proofs.Ytjhcdndmbilogaa
