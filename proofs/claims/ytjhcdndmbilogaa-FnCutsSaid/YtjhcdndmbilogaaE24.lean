/-
  The engine, part 24: a function's text with its loops' meanings taken for granted.
  CONDITIONS: those that each theorem names.
-/
import Derived.Test.YtjhcdndmbilogaaE23
namespace Go.Proofs.Ytjhcdndmbilogaa
namespace Eng
open Go Go.RowKit
set_option linter.unusedVariables false
set_option linter.unusedSimpArgs false

/-- The meanings of a code's loops, laid out as the code is. -/
inductive LT (R : Type) where
  | nil
  | node (a b : LT R)
  | lp (ann : LAnn) (d : HP ann.ps → Option R)
def LT.fst {R : Type} : LT R → LT R
  | .node a _ => a
  | _ => .nil
def LT.snd {R : Type} : LT R → LT R
  | .node _ b => b
  | _ => .nil

section
variable (P : Program) (Δ : Tbl) (nt : Nat) (fp : List Nat) (la : Nat → Option LAnn)

def ltOf {R : Type} : Code → (Exit → St → Option R) → LT R
  | .seq a b, K => .node (ltOf a (seqK P Δ nt fp la b K)) (ltOf b K)
  | .cond _ a b, K => .node (ltOf a K) (ltOf b K)
  | .block id c, K => ltOf c (blockK id K)
  | .loop body, K => match keyOf body with
    | some k => match la k with
      | some ann => .lp ann (lpAt P Δ nt fp la ann body K big)
      | none => .nil
    | none => .nil
  | _, _ => .nil

def evD {R : Type} : Code → LT R → St → (Exit → St → Option R) → Option R
  | .skip, _, st, K => K .normal st
  | .region _ ops draw, _, st, K => match dstOk nt fp ops.toList with
    | true => match draw with
      | false => evOps P Δ ops.toList ops.toList st [] fun st' _ => K .normal st'
      | true => match edgesOk 0 ops.toList with
        | true => evOps P Δ ops.toList ops.toList st [] fun st' log => match okOrder ops.toList log with
          | true => K .normal st'
          | false => none
        | false => none
    | false => none
  | .seq a b, t, st, K => evD a t.fst st fun e st' => match e with
    | .normal => evD b t.snd st' K
    | e => K e st'
  | .cond c a b, t, st, K => match st.ev c with
    | .c (.v (.bool v)) => if v = true then evD a t.fst (litOp st c true) K else evD b t.snd (litOp st c false) K
    | _ => none
  | .block id body, t, st, K => evD body t st fun e st' => match e with
    | .exit j => match Nat.beq j id with
      | true => K .normal st'
      | false => K (.exit j) st'
    | e => K e st'
  | .loop body, t, st, K => match t with
    | .lp ann d => (getA ann st).bind d
    | _ => none
  | .exit id, _, st, K => K (.exit id) st
  | .ret, _, st, K => K .ret st
  | c, _, st, K => evC P Δ nt fp la c st K

def seqD {R : Type} (b : Code) (t : LT R) (K : Exit → St → Option R) : Exit → St → Option R := fun e st' => match e with
  | .normal => evD P Δ nt fp la b t st' K
  | e => K e st'
def kAtD {R : Type} : Code → List Nat → LT R → (Exit → St → Option R) → (Exit → St → Option R)
  | _, [], _, K => K
  | .seq a b, d :: p, t, K => match d with
    | 0 => kAtD a p t.fst (seqD P Δ nt fp la b t.snd K)
    | _ => kAtD b p t.snd K
  | .cond _ a b, d :: p, t, K => match d with
    | 0 => kAtD a p t.fst K
    | _ => kAtD b p t.snd K
  | .block id c, _ :: p, t, K => kAtD c p t (blockK id K)
  | _, _ :: _, _, K => K
end

section
variable {P : Program} {Δ : Tbl} {nt : Nat} {fp : List Nat} {la : Nat → Option LAnn} {R : Type}
theorem evD_eq : ∀ (c : Code) (st : St) (K : Exit → St → Option R), evC P Δ nt fp la c st K = evD P Δ nt fp la c (ltOf P Δ nt fp la c K) st K := by
  intro c
  induction c with
  | seq a b iha ihb =>
    intro st K
    have hs : seqK P Δ nt fp la b K = seqD P Δ nt fp la b (ltOf P Δ nt fp la b K) K := by
      funext e st'
      cases e <;> simp only [seqK, seqD, ihb]
    show evC P Δ nt fp la a st (seqK P Δ nt fp la b K) = evD P Δ nt fp la a (ltOf P Δ nt fp la a (seqK P Δ nt fp la b K)) st (seqD P Δ nt fp la b (ltOf P Δ nt fp la b K) K)
    rw [iha]
    exact congrArg (evD P Δ nt fp la a (ltOf P Δ nt fp la a (seqK P Δ nt fp la b K)) st) hs
  | cond c a b iha ihb =>
    intro st K
    unfold evC evD
    cases hq : st.ev c with
    | c x =>
      cases x with
      | v v =>
        cases v with
        | bool t => simp only [ltOf, LT.fst, LT.snd, iha, ihb]
        | _ => rfl
      | _ => rfl
    | _ => rfl
  | block id c ih =>
    intro st K
    simp only [evC, evD, ltOf]
    rw [ih]
    rfl
  | loop body ih =>
    intro st K
    simp only [evC, evD, ltOf]
    cases keyOf body with
    | none => rfl
    | some k =>
      simp only
      cases la k with
      | none => rfl
      | some ann => rfl
  | _ => intro st K; rfl
theorem kAtD_eq : ∀ (c : Code) (p : List Nat) (K : Exit → St → Option R), kAt P Δ nt fp la c p K = kAtD P Δ nt fp la c p (ltOf P Δ nt fp la c K) K := by
  intro c
  induction c with
  | seq a b iha ihb =>
    intro p K
    cases p with
    | nil => rfl
    | cons d p =>
      have hs : seqK P Δ nt fp la b K = seqD P Δ nt fp la b (ltOf P Δ nt fp la b K) K := by
        funext e st'
        cases e <;> simp only [seqK, seqD, evD_eq]
      cases d with
      | zero =>
        simp only [kAt, kAtD, ltOf, LT.fst, LT.snd]
        rw [iha, ← hs]
      | succ d => simp only [kAt, kAtD, ltOf, LT.fst, LT.snd, ihb]
  | cond c a b iha ihb =>
    intro p K
    cases p with
    | nil => rfl
    | cons d p => cases d <;> simp only [kAt, kAtD, ltOf, LT.fst, LT.snd, iha, ihb]
  | block id c ih =>
    intro p K
    cases p with
    | nil => rfl
    | cons d p => simp only [kAt, kAtD, ltOf, ih]
  | _ => intro p K; cases p <;> rfl
end

/-- A loop's meaning, known by the loop's key. -/
abbrev Ora (R : Type) := Nat → Option ((ann : LAnn) × (HP ann.ps → Option R))
def ltv {R : Type} (O : Ora R) : Code → LT R
  | .seq a b => .node (ltv O a) (ltv O b)
  | .cond _ a b => .node (ltv O a) (ltv O b)
  | .block id c => ltv O c
  | .loop body => match keyOf body with
    | some k => match O k with
      | some ⟨ann, d⟩ => .lp ann d
      | none => .nil
    | none => .nil
  | _ => .nil
def ora {R : Type} (l : List (Nat × ((ann : LAnn) × (HP ann.ps → Option R)))) : Ora R := fun k => lookL l k

section
variable (P : Program) (Δ : Tbl) (nt : Nat) (fp : List Nat) (la : Nat → Option LAnn) {R : Type}
/-- One round, its loops' meanings taken for granted. -/
def rndV (ann : LAnn) (body : Code) (t : LT R) (KD : Exit → St → Option R) (rec : HP ann.ps → Option R) (x : HP ann.ps) : Option R :=
  evD P Δ nt fp la body t (stOf ann x) (contOf ann KD rec)
def evFV (c : Code) (res : List ResultVar) (ps rs : List PM) (t : LT (HP rs × HP (outsP ps))) (x : HP ps) : Option (HP rs × HP (outsP ps)) := match plPs 0 ps x with
  | (fvs, objs, k) => evD P Δ nt (ptrIdx 0 ps) la c t ⟨(List.range fvs.length).zip fvs, objs, k⟩ (retK (finish P ps rs res))
end
section
variable {P : Program} {Δ : Tbl} {nt : Nat} {fp : List Nat} {la : Nat → Option LAnn} {R : Type}
theorem contV_eq {c : Code} {p : List Nat} {K KD : Exit → St → Option R} {t : LT R} (h : K = KD) (ht : ltOf P Δ nt fp la c K = t) : kAt P Δ nt fp la c p K = kAtD P Δ nt fp la c p t KD := by
  subst h; subst ht; exact kAtD_eq c p K
theorem contOf_eq {ann : LAnn} {K KD : Exit → St → Option R} (h : K = KD) (rec : HP ann.ps → Option R) : contOf ann K rec = contOf ann KD rec := by rw [h]
theorem rndV_eq {ann : LAnn} {body : Code} {K KD : Exit → St → Option R} {t : LT R} (h : K = KD) {rec : HP ann.ps → Option R} (ht : ltOf P Δ nt fp la body (contOf ann K rec) = t) (x : HP ann.ps) :
    rndAt P Δ nt fp la ann body K rec x = rndV P Δ nt fp la ann body t KD rec x := by
  subst h; subst ht; exact evD_eq body _ _
theorem evFV_eq {c : Code} {res : List ResultVar} {ps rs : List PM} {t : LT (HP rs × HP (outsP ps))} (ht : ltOf P Δ nt (ptrIdx 0 ps) la c (retK (finish P ps rs res)) = t) (x : HP ps) : evF P Δ nt la c res ps rs x = evFV P Δ nt la c res ps rs t x := by
  subst ht
  unfold evF evFV
  rcases plPs 0 ps x with ⟨fvs, objs, k⟩
  exact evD_eq c _ (retK (finish P ps rs res))
end
end Eng
end Go.Proofs.Ytjhcdndmbilogaa
