/-
  Positions and speeds of tracks.
  CONDITIONS: those that each theorem names.
-/
import Derived.Test.YtjhcdndmbilogaaM4
namespace Go.Proofs.Ytjhcdndmbilogaa
set_option linter.unusedVariables false
set_option linter.unusedSimpArgs false
namespace Pl
open Go Eng RK

abbrev TR : Ty := .pair (.int .i64) (.int .i64)
def gr (l : List Ra) (i : Nat) : Ra := gt TR l i
def PtOk (p : List Ra) : Prop := ∀ i, i < p.length → RK.Ok (gr p i)
open Classical in
noncomputable def isPt (p : List Ra) (d : Int) : Bool := decide ((p.length : Int) = d ∧ PtOk p)
theorem f30_den (p : List Ra) (d : Int) (hlen : p.length ≤ 1000000) : F30.den (p, (d, ())) = some ((isPt p d, ()), ()) := by
  rw [show F30.den = F30.d0 (F30.L0 big) from rfl]
  unfold F30.d0
  simp only
  by_cases h1 : (p.length : Int) = d
  · rw [if_neg (by simpa using h1)]
    refine itr_inv (B := F30.B0) (fun z : F30.X0 => p.length - z.2.2.1.toNat) (fun z => z.1 = p ∧ z.2.1 = p.length ∧ ∃ n : Nat, z.2.2.1 = n ∧ n ≤ p.length ∧ ∀ i, i < n → RK.Ok (gr p i)) (fun z o => o = some ((isPt p d, ()), ())) ?_ big _ ⟨rfl, rfl, 0, rfl, by omega, fun i h => absurd h (by omega)⟩ (by simp only; unfold big; omega)
    rintro ⟨p', m, i, u⟩ rec ⟨e1, e2, n, e3, hn, ho⟩ ih
    simp only at e1 e2 e3 ih
    subst e1; subst e2; subst e3
    unfold F30.B0 F30.b0
    simp only
    by_cases h3 : n < p'.length
    · rw [if_pos (by simp; omega), if_pos (by simp; omega)]
      simp only [Int.toNat_natCast]
      rw [f27_den]; simp only [Option.bind_some]
      by_cases h4 : RK.Ok (gr p' n)
      · have h5 := h4
        unfold gr at h5
        have hs : IntKind.wrap .i64 ((n : Int) + 1) = ((n + 1 : Nat) : Int) := by rw [wr (by omega) (by omega)]; omega
        rw [decide_eq_true h5, hs]
        refine ih _ ⟨rfl, rfl, n + 1, rfl, by omega, fun i hi => ?_⟩ (by first | omega | (simp only; omega))
        by_cases e : i = n
        · subst e; exact h4
        · exact ho i (by omega)
      · have h5 := h4
        unfold gr at h5
        rw [decide_eq_false h5]
        have : isPt p' d = false := by
          unfold isPt
          simp only [decide_eq_false_iff_not]
          intro h; exact h4 (h.2 n h3)
        rw [this]; rfl
    · rw [if_neg (by simp; omega)]
      have e : n = p'.length := by omega
      subst e
      have : isPt p' d = true := by
        unfold isPt
        simp only [decide_eq_true_eq]
        exact ⟨h1, ho⟩
      rw [this]
  · rw [if_pos (by simpa using h1)]
    have : isPt p d = false := by
      unfold isPt
      simp only [decide_eq_false_iff_not]
      intro h; exact h1 h.1
    rw [this]
theorem isPt2 (a b : Ra) : isPt [a, b] 2 = decide (RK.Ok a ∧ RK.Ok b) := by
  unfold isPt
  rw [Bool.eq_iff_iff]
  simp only [decide_eq_true_eq]
  constructor
  · intro h
    exact ⟨h.2 0 (by simp), h.2 1 (by simp)⟩
  · intro h
    refine ⟨rfl, fun i hi => ?_⟩
    simp only [List.length_cons, List.length_nil] at hi
    rcases (show i = 0 ∨ i = 1 by omega) with rfl | rfl
    · exact h.1
    · exact h.2

def onL (l : Ln) (t : Ra) : Ra := add (mul l.1 t) l.2
def legPos (x : Lg) (t : Ra) : List Ra × Bool := if LgOk x ∧ RK.Ok (onL x.2.2.1 t) ∧ RK.Ok (onL x.2.2.2 t) then ([onL x.2.2.1 t, onL x.2.2.2 t], true) else ([], false)
/-- The position, from the stop i on, k stops being left. -/
def posG (l : List Stp) (t : Ra) : Nat → Nat → List Ra × Bool
  | 0, _ => ([], false)
  | k + 1, i => if cmp t (g l i).1 = 0 then ([(g l i).2.1, (g l i).2.2], true) else if cmp t (g l i).1 > 0 then posG l t k (i + 1) else if i = 0 then ([], false) else legPos (legF (g l (i - 1)) (g l i)) t
theorem posG_succ (l : List Stp) (t : Ra) (k i : Nat) : posG l t (k + 1) i = if cmp t (g l i).1 = 0 then ([(g l i).2.1, (g l i).2.2], true) else if cmp t (g l i).1 > 0 then posG l t k (i + 1) else if i = 0 then ([], false) else legPos (legF (g l (i - 1)) (g l i)) t := rfl
noncomputable def posF (l : List Stp) (t : Ra) : List Ra × Bool := if isTrk l = true ∧ RK.Ok t then posG l t l.length 0 else ([], false)
theorem f10_den (l : List Stp) (t : Ra) : F10.den (l, ((t, ()), ())) = some (((posF l t).1, ((posF l t).2, ())), ()) := by
  rw [show F10.den = F10.d0 (F10.L0 big) from rfl]
  unfold F10.d0
  simp only
  rw [f24_den]; simp only [Option.bind_some]
  by_cases hl : isTrk l = true
  · rw [hl, f27_den]; simp only [Option.bind_some]
    have hT := isTrk_t.1 hl
    by_cases ht : RK.Ok t
    · rw [decide_eq_true ht]
      simp only [Bool.not_true, if_true, Bool.false_eq_true, if_false]
      have e : posF l t = posG l t l.length 0 := by unfold posF; rw [if_pos ⟨hl, ht⟩]
      rw [e]
      refine itr_inv (B := F10.B0) (fun z : F10.X0 => l.length - z.2.2.2.2.1.toNat) (fun z => z.1 = l ∧ z.2.1.1 = t ∧ z.2.2.1 = l ∧ z.2.2.2.1 = l.length ∧ ∃ n : Nat, z.2.2.2.2.1 = n ∧ n ≤ l.length ∧ posG l t l.length 0 = posG l t (l.length - n) n)
        (fun z o => o = some (((posG l t l.length 0).1, ((posG l t l.length 0).2, ())), ())) ?_ big _ ⟨rfl, rfl, rfl, rfl, 0, rfl, by omega, rfl⟩ (by simp only; unfold big; have := hT.2.1; omega)
      rintro ⟨l', ⟨t', u⟩, l'', m, i, u2⟩ rec ⟨e1, e2, e3, e4, n, e5, hn, e6⟩ ih
      simp only at e1 e2 e3 e4 e5 ih
      subst e1; subst e2; subst e3; subst e4; subst e5
      unfold F10.B0 F10.b0
      simp only
      have h6 := hT.2.1
      by_cases h3 : n < l''.length
      · rw [if_pos (by simp; omega), if_pos (by simp; omega)]
        simp only [Int.toNat_natCast]
        rw [f17_den]; simp only [Option.bind_some]
        obtain ⟨k, hk⟩ : ∃ k, l''.length - n = k + 1 := ⟨l''.length - n - 1, by omega⟩
        have hk' : l''.length - (n + 1) = k := by omega
        have hs : IntKind.wrap .i64 ((n : Int) + 1) = ((n + 1 : Nat) : Int) := by rw [wr (by omega) (by omega)]; omega
        rw [hk, posG_succ] at e6
        rw [show (gt (.pair (.pair (.int .i64) (.int .i64)) (.pair (.pair (.int .i64) (.int .i64)) (.pair (.int .i64) (.int .i64)))) l'' n) = g l'' n from rfl]
        by_cases c0 : cmp t' (g l'' n).1 = 0
        · rw [if_pos c0] at e6
          rw [if_pos (by simpa using c0), e6]
        · rw [if_neg c0] at e6
          rw [if_neg (by simpa using c0)]
          by_cases c1 : cmp t' (g l'' n).1 > 0
          · rw [if_pos c1] at e6
            rw [if_pos (by simpa using c1), hs]
            exact ih _ ⟨rfl, rfl, rfl, rfl, n + 1, rfl, by omega, by rw [hk']; exact e6⟩ (by first | omega | (simp only; omega))
          · rw [if_neg c1] at e6
            rw [if_neg (by simpa using c1)]
            by_cases c2 : n = 0
            · rw [if_pos c2] at e6
              rw [if_pos (by simp; omega), e6]
            · rw [if_neg c2] at e6
              have hp : IntKind.wrap .i64 ((n : Int) - 1) = ((n - 1 : Nat) : Int) := by rw [wr (by omega) (by omega)]; omega
              rw [if_neg (by simp; omega), hp, if_pos (by simp; omega)]
              simp only [Int.toNat_natCast]
              rw [show (gt (.pair (.pair (.int .i64) (.int .i64)) (.pair (.pair (.int .i64) (.int .i64)) (.pair (.int .i64) (.int .i64)))) l'' (n - 1)) = g l'' (n - 1) from rfl, f28_den]
              simp only [Option.bind_some]
              rw [e6]
              unfold legPos
              generalize legF (g l'' (n - 1)) (g l'' n) = x
              by_cases hx : LgOk x
              · rw [decide_eq_true hx]
                simp only [Bool.not_true, Bool.false_eq_true, if_false]
                rw [f29_den]; simp only [Option.bind_some]
                rw [f25_den]; simp only [Option.bind_some]
                rw [f29_den]; simp only [Option.bind_some]
                rw [f25_den]; simp only [Option.bind_some]
                rw [f30_den _ _ (by simp), isPt2]; simp only [Option.bind_some]
                by_cases ho : RK.Ok (onL x.2.2.1 t') ∧ RK.Ok (onL x.2.2.2 t')
                · rw [if_pos (show LgOk x ∧ RK.Ok (onL x.2.2.1 t') ∧ RK.Ok (onL x.2.2.2 t') from ⟨hx, ho⟩)]
                  unfold onL at ho ⊢
                  rw [decide_eq_true ho]; rfl
                · rw [if_neg (show ¬ (LgOk x ∧ RK.Ok (onL x.2.2.1 t') ∧ RK.Ok (onL x.2.2.2 t')) from fun h => ho h.2)]
                  unfold onL at ho
                  rw [decide_eq_false ho]; rfl
              · rw [decide_eq_false hx, if_neg (show ¬ (LgOk x ∧ RK.Ok (onL x.2.2.1 t') ∧ RK.Ok (onL x.2.2.2 t')) from fun h => hx h.1)]; rfl
      · rw [if_neg (by simp; omega), e6]
        rw [show l''.length - n = 0 by omega]; rfl
    · rw [decide_eq_false ht]
      unfold posF
      rw [if_neg (show ¬ (isTrk l = true ∧ RK.Ok t) from fun h => ht h.2)]; rfl
  · unfold posF
    rw [if_neg (show ¬ (isTrk l = true ∧ RK.Ok t) from fun h => hl h.1)]
    rw [Bool.not_eq_true] at hl
    rw [hl]; rfl

/-! ### Legs and speeds -/
def lgs (l : List Stp) : Nat → List Lg
  | 0 => []
  | n + 1 => lgs l n ++ [legF (g l n) (g l (n + 1))]
def LegsOk (l : List Stp) (n : Nat) : Prop := ∀ i, i < n → LgOk (legF (g l i) (g l (i + 1)))
instance (l : List Stp) (n : Nat) : Decidable (LegsOk l n) := by unfold LegsOk; infer_instance
def rest (s : Stp) : Lg := (s.1, (s.1, (((0, 1), s.2.1), ((0, 1), s.2.2))))
noncomputable def legsF (l : List Stp) : List Lg × Bool := if isTrk l = true then (if l.length = 1 then ([rest (g l 0)], true) else if LegsOk l (l.length - 1) then (lgs l (l.length - 1), true) else ([], false)) else ([], false)
theorem f33_den (l : List Stp) : F33.den (l, ()) = some (((legsF l).1, ((legsF l).2, ())), ()) := by
  rw [show F33.den = F33.d0 (F33.L0 big) from rfl]
  unfold F33.d0
  simp only
  rw [f24_den]; simp only [Option.bind_some]
  by_cases hl : isTrk l = true
  · rw [hl]
    have hT := isTrk_t.1 hl
    simp only [Bool.not_true, if_true, Bool.false_eq_true, if_false]
    by_cases h1 : l.length = 1
    · rw [if_pos (by simp [h1]), if_pos (by simp [h1])]
      unfold legsF
      rw [if_pos hl, if_pos h1]; rfl
    · rw [if_neg (by simp; omega)]
      have e : legsF l = (if LegsOk l (l.length - 1) then (lgs l (l.length - 1), true) else ([], false)) := by unfold legsF; rw [if_pos hl, if_neg h1]
      rw [e]
      clear e
      refine itr_inv (B := F33.B0) (fun z : F33.X0 => l.length - z.2.2.1.toNat) (fun z => z.1 = l ∧ ∃ n : Nat, z.2.2.1 = ((n + 1 : Nat) : Int) ∧ n + 1 ≤ l.length ∧ z.2.1 = lgs l n ∧ LegsOk l n)
        (fun z o => o = some (((if LegsOk l (l.length - 1) then (lgs l (l.length - 1), true) else ([], false)).1, ((if LegsOk l (l.length - 1) then (lgs l (l.length - 1), true) else ([], false)).2, ())), ())) ?_ big _ ⟨rfl, 0, rfl, by have := hT.1; omega, rfl, fun i h => absurd h (by omega)⟩ (by simp only; unfold big; have := hT.2.1; omega)
      rintro ⟨l', a, i, u⟩ rec ⟨e1, n, e2, hn, e3, ho⟩ ih
      simp only at e1 e2 e3 ih
      subst e1; subst e2; subst e3
      unfold F33.B0 F33.b0
      simp only
      have h6 := hT.2.1
      have hlen : ∀ n, (lgs l' n).length = n := fun n => by
        induction n with
        | zero => rfl
        | succ n ih => simp [lgs, ih]
      by_cases h3 : n + 1 < l'.length
      · have hp : IntKind.wrap .i64 (((n + 1 : Nat) : Int) - 1) = ((n : Nat) : Int) := by rw [wr (by omega) (by omega)]; omega
        have hs : IntKind.wrap .i64 (((n + 1 : Nat) : Int) + 1) = ((n + 1 + 1 : Nat) : Int) := by rw [wr (by omega) (by omega)]; omega
        rw [if_pos (by simp; omega), hp, if_pos (by simp; omega), if_pos (by simp; omega)]
        simp only [Int.toNat_natCast]
        rw [show (gt (.pair (.pair (.int .i64) (.int .i64)) (.pair (.pair (.int .i64) (.int .i64)) (.pair (.int .i64) (.int .i64)))) l' n) = g l' n from rfl, show (gt (.pair (.pair (.int .i64) (.int .i64)) (.pair (.pair (.int .i64) (.int .i64)) (.pair (.int .i64) (.int .i64)))) l' (n + 1)) = g l' (n + 1) from rfl, f28_den]
        simp only [Option.bind_some]
        by_cases hx : LgOk (legF (g l' n) (g l' (n + 1)))
        · rw [decide_eq_true hx]
          simp only [Bool.not_true, Bool.false_eq_true, if_false]
          rw [if_pos (by simp only [decide_eq_true_eq, hlen, List.length_singleton]; unfold cap36; omega), hs]
          refine ih _ ⟨rfl, n + 1, rfl, by omega, rfl, fun i hi => ?_⟩ (by first | omega | (simp only; omega))
          by_cases e : i = n
          · subst e; exact hx
          · exact ho i (by omega)
        · rw [decide_eq_false hx, if_neg (show ¬ LegsOk l' (l'.length - 1) from fun h => hx (h n (by omega)))]; rfl
      · rw [if_neg (by simp; omega)]
        have e : l'.length - 1 = n := by omega
        rw [e, if_pos ho]
  · unfold legsF
    rw [if_neg hl]
    rw [Bool.not_eq_true] at hl
    rw [hl]; rfl

def up (best r : Ra) : Ra := if cmp ((r.1.natAbs : Int), r.2) best > 0 then ((r.1.natAbs : Int), r.2) else best
def upL (best : Ra) (x : Lg) : Ra := up (up best x.2.2.1.1) x.2.2.2.1
noncomputable def speedF (l : List Stp) : Ra × Bool := if (legsF l).2 = true then ((legsF l).1.foldl upL (0, 1), true) else ((0, 0), false)
def Small (r : Ra) : Prop := -9223372036854775808 < r.1 ∧ r.1 < 9223372036854775808
theorem Ok.small {r : Ra} (h : RK.Ok r) : Small r := by unfold RK.Ok at h; unfold Small; omega
theorem L12in (r0 : F12.X0 → F12.Y) (m : Nat) (z best : Ra) (legs : List Lg) (len i : Int) (a b : Ra) (ha : Small a) (hb : Small b) :
    F12.L1 r0 (m + 3) ((z, ()), ((best, ()), (legs, (len, (i, ([a, b], (2, (0, ())))))))) = r0 ((z, ()), ((up (up best a) b, ()), (legs, (len, (IntKind.wrap .i64 (i + 1), ()))))) := by
  have step : ∀ (n : Nat) (best : Ra) (k : Nat) (r : Ra), gr [a, b] k = r → k < 2 → Small r → F12.L1 r0 (n + 1) ((z, ()), ((best, ()), (legs, (len, (i, ([a, b], (2, ((k : Int), ())))))))) =
      F12.L1 r0 n ((z, ()), ((up best r, ()), (legs, (len, (i, ([a, b], (2, (((k + 1 : Nat) : Int), ())))))))) := by
    intro n best k r hr hk hs
    show F12.B1 r0 (F12.L1 r0 n) _ = _
    unfold F12.B1 F12.b1
    simp only
    rw [if_pos (by simp; omega), if_pos (by simp; omega)]
    simp only [Int.toNat_natCast]
    rw [show gt (.pair (.int .i64) (.int .i64)) [a, b] k = r from hr, f34_den _ hs.1 hs.2]
    simp only [Option.bind_some]
    rw [f17_den]
    simp only [Option.bind_some]
    have hw : IntKind.wrap .i64 ((k : Int) + 1) = ((k + 1 : Nat) : Int) := by rw [wr (by omega) (by omega)]; omega
    rw [hw]
    unfold up
    by_cases hc : cmp ((r.1.natAbs : Int), r.2) best > 0
    · rw [if_pos (by simpa using hc), if_pos hc]
    · rw [if_neg (by simpa using hc), if_neg hc]
  have e0 := step (m + 2) best 0 a rfl (by omega) ha
  have e1 := step (m + 1) (up best a) 1 b rfl (by omega) hb
  refine e0.trans (e1.trans ?_)
  rw [show F12.L1 r0 (m + 1) = F12.B1 r0 (F12.L1 r0 m) from rfl]
  unfold F12.B1 F12.b1
  simp only
  rw [if_neg (by simp)]
theorem f12_den (l : List Stp) : F12.den (l, ()) = some (((((speedF l).1), ()), ((speedF l).2, ())), ()) := by
  rw [show F12.den = F12.d0 (F12.L0 big) from rfl]
  unfold F12.d0
  simp only
  rw [f33_den]; simp only [Option.bind_some]
  by_cases hok : (legsF l).2 = true
  · have hs : ∀ i, i < (legsF l).1.length → Small ((legsF l).1.getD i default).2.2.1.1 ∧ Small ((legsF l).1.getD i default).2.2.2.1 := by
      have hall : ∀ x ∈ (legsF l).1, Small x.2.2.1.1 ∧ Small x.2.2.2.1 := by
        unfold legsF at hok ⊢
        by_cases hl : isTrk l = true
        · rw [if_pos hl] at hok ⊢
          by_cases h1 : l.length = 1
          · rw [if_pos h1]
            intro x hx
            simp only [List.mem_singleton] at hx
            subst hx
            exact ⟨⟨by simp [rest], by simp [rest]⟩, by simp [rest], by simp [rest]⟩
          · rw [if_neg h1] at hok ⊢
            by_cases hL : LegsOk l (l.length - 1)
            · rw [if_pos hL]
              have : ∀ n, LegsOk l n → ∀ x ∈ lgs l n, Small x.2.2.1.1 ∧ Small x.2.2.2.1 := fun n => by
                induction n with
                | zero => intro _ x hx; simp [lgs] at hx
                | succ n ih =>
                  intro h x hx
                  simp only [lgs, List.mem_append, List.mem_singleton] at hx
                  rcases hx with hx | rfl
                  · exact ih (fun i hi => h i (by omega)) x hx
                  · have := h n (by omega)
                    exact ⟨Ok.small this.1.1, Ok.small this.2.1⟩
              exact this _ hL
            · rw [if_neg hL] at hok; cases hok
        · rw [if_neg hl] at hok; cases hok
      intro i hi
      have : (legsF l).1.getD i default ∈ (legsF l).1 := by
        simp [List.getD, hi]
      exact hall _ this
    have hlen : (legsF l).1.length ≤ 10 := by
      have h2 : ∀ n, (lgs l n).length = n := fun n => by
        induction n with
        | zero => rfl
        | succ n ih => simp [lgs, ih]
      unfold legsF
      split
      · rename_i hl
        have := (isTrk_t.1 hl).2.1
        split
        · simp
        · split
          · simp [h2]; omega
          · simp
      · simp
    unfold speedF
    rw [if_pos hok, hok]
    simp only [Bool.not_true, Bool.false_eq_true, if_false]
    generalize (legsF l).1 = legs at hs hlen
    refine itr_inv (B := F12.B0) (fun z : F12.X0 => legs.length - z.2.2.2.2.1.toNat) (fun z => z.2.2.1 = legs ∧ z.2.2.2.1 = legs.length ∧ ∃ n : Nat, z.2.2.2.2.1 = n ∧ n ≤ legs.length ∧ z.2.1.1 = (legs.take n).foldl upL (0, 1))
      (fun z o => o = some (((((legs.foldl upL (0, 1)), ()), (true, ()))), ())) ?_ big _ ⟨rfl, rfl, 0, rfl, by omega, rfl⟩ (by simp only; unfold big; omega)
    rintro ⟨⟨z, u1⟩, ⟨best, u2⟩, legs', m, i, u3⟩ rec ⟨e1, e2, n, e3, hn, e4⟩ ih
    simp only at e1 e2 e3 e4 ih
    subst e1; subst e2; subst e3; subst e4
    unfold F12.B0 F12.b0
    simp only
    by_cases h3 : n < legs'.length
    · rw [if_pos (by simp; omega), if_pos (by simp; omega)]
      simp only [Int.toNat_natCast]
      have hgt : gt (.pair (.pair (.int .i64) (.int .i64)) (.pair (.pair (.int .i64) (.int .i64)) (.pair (.pair (.pair (.int .i64) (.int .i64)) (.pair (.int .i64) (.int .i64))) (.pair (.pair (.int .i64) (.int .i64)) (.pair (.int .i64) (.int .i64)))))) legs' n = legs'[n] := by
        unfold gt; simp [List.getD, h3]
      have hsn := hs n h3
      rw [show legs'.getD n default = legs'[n] by simp [List.getD, h3]] at hsn
      rw [hgt]
      have hs2 : IntKind.wrap .i64 ((n : Int) + 1) = ((n + 1 : Nat) : Int) := by rw [wr (by omega) (by omega)]; omega
      have := L12in rec (big - 3) z ((legs'.take n).foldl upL (0, 1)) legs' legs'.length n legs'[n].2.2.1.1 legs'[n].2.2.2.1 hsn.1 hsn.2
      rw [show big - 3 + 3 = big from rfl, hs2] at this
      refine Eq.trans this (ih _ ⟨rfl, rfl, n + 1, rfl, by omega, ?_⟩ (by first | omega | (simp only; omega)))
      simp only
      rw [← List.take_append_getElem h3, List.foldl_append]; rfl
    · rw [if_neg (by simp; omega)]
      have : n = legs'.length := by omega
      subst this
      rw [List.take_length]
  · unfold speedF
    rw [if_neg hok]
    rw [Bool.not_eq_true] at hok
    rw [hok]; rfl
end Pl
end Go.Proofs.Ytjhcdndmbilogaa
