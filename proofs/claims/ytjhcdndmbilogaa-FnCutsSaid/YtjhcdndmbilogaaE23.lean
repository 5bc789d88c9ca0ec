/-
  The engine, part 23: loops by their rounds; tables.
  CONDITIONS: those that each theorem names.
-/
import Derived.Test.YtjhcdndmbilogaaE22
import Derived.KernelRfl
namespace Go.Proofs.Ytjhcdndmbilogaa
namespace Eng
open Go Go.RowKit
set_option linter.unusedVariables false

def codeOf (fn : Func) : Code := match fn.body with
  | some c => c
  | none => .skip

/-- The code at a place. -/
def atP : Code → List Nat → Code
  | c, [] => c
  | .seq a b, d :: p => match d with
    | 0 => atP a p
    | _ => atP b p
  | .cond _ a b, d :: p => match d with
    | 0 => atP a p
    | _ => atP b p
  | .block _ c, _ :: p => atP c p
  | .loop c, _ :: p => atP c p
  | c, _ :: _ => c

def blockK {R : Type} (id : Nat) (K : Exit → St → Option R) : Exit → St → Option R := fun e st' => match e with
  | .exit j => match Nat.beq j id with
    | true => K .normal st'
    | false => K (.exit j) st'
  | e => K e st'
def contOf {R : Type} (ann : LAnn) (K : Exit → St → Option R) (rec : HP ann.ps → Option R) : Exit → St → Option R := fun e st' => match e with
  | .normal => (getA ann st').bind rec
  | e => K e st'

section
variable (P : Program) (Δ : Tbl) (nt : Nat) (fp : List Nat) (la : Nat → Option LAnn)
def seqK {R : Type} (b : Code) (K : Exit → St → Option R) : Exit → St → Option R := fun e st' => match e with
  | .normal => evC P Δ nt fp la b st' K
  | e => K e st'
/-- What comes behind the code at a place (down to a loop, not into it). -/
def kAt {R : Type} : Code → List Nat → (Exit → St → Option R) → (Exit → St → Option R)
  | _, [], K => K
  | .seq a b, d :: p, K => match d with
    | 0 => kAt a p (seqK P Δ nt fp la b K)
    | _ => kAt b p K
  | .cond _ a b, d :: p, K => match d with
    | 0 => kAt a p K
    | _ => kAt b p K
  | .block id c, _ :: p, K => kAt c p (blockK id K)
  | _, _ :: _, K => K
/-- A loop's meaning. -/
def lpAt {R : Type} (ann : LAnn) (body : Code) (K : Exit → St → Option R) : Nat → HP ann.ps → Option R := lpDen (fun st' K' => evC P Δ nt fp la body st' K') ann K
/-- One round. -/
def rndAt {R : Type} (ann : LAnn) (body : Code) (K : Exit → St → Option R) (rec : HP ann.ps → Option R) (x : HP ann.ps) : Option R := evC P Δ nt fp la body (stOf ann x) (contOf ann K rec)
def retK {R : Type} (fin : St → Option R) : Exit → St → Option R := fun e st => match e with
  | .normal => fin st
  | .ret => fin st
  | _ => none
end

def itr {V R : Type} (B : (V → Option R) → V → Option R) : Nat → V → Option R
  | 0, _ => none
  | n + 1, x => B (itr B n) x

theorem lp_itr {P : Program} {Δ : Tbl} {nt : Nat} {fp : List Nat} {la : Nat → Option LAnn} {R : Type} {ann : LAnn} {body : Code} {K : Exit → St → Option R} {B : (HP ann.ps → Option R) → HP ann.ps → Option R}
    (h : ∀ rec x, rndAt P Δ nt fp la ann body K rec x = B rec x) : lpAt P Δ nt fp la ann body K = itr B := by
  funext n
  induction n with
  | zero => rfl
  | succ n ih =>
    funext x
    have ih' : lpDen (fun st' K' => evC P Δ nt fp la body st' K') ann K n = itr B n := ih
    show evC P Δ nt fp la body (stOf ann x) (fun e st' => match e with | .normal => (getA ann st').bind (lpDen (fun st' K' => evC P Δ nt fp la body st' K') ann K n) | e => K e st') = B (itr B n) x
    rw [ih', ← h]
    rfl

/-- A table. -/
def tbl (l : List (Nat × List Ent)) : Tbl := fun f => match lookL l f with
  | some es => es
  | none => []
theorem tbl_nil {P : Program} {J : World → Prop} {G : Nat} : TblOk P J G (tbl []) := fun f e h => by simp [tbl, lookL] at h
theorem tbl_cons {P : Program} {J : World → Prop} {G : Nat} {f : Nat} {es : List Ent} {l : List (Nat × List Ent)} (h : ∀ e ∈ es, Con P J G f e.ps e.rs e.den) (k : TblOk P J G (tbl l)) : TblOk P J G (tbl ((f, es) :: l)) := fun g e hg => by
  unfold tbl at hg
  rw [lookL_cons] at hg
  by_cases hgf : g = f
  · subst hgf; simp at hg; exact h e hg
  · rw [if_neg hgf] at hg; exact k g e hg
theorem Con.of_eq {P : Program} {J : World → Prop} {G : Nat} {f : FuncId} {ps rs : List PM} {den den' : HP ps → Option (HP rs × HP (outsP ps))} (h : Con P J G f ps rs den) (e : ∀ x, den x = den' x) : Con P J G f ps rs den' := by
  have : den = den' := funext e
  rw [← this]; exact h
end Eng
end Go.Proofs.Ytjhcdndmbilogaa
