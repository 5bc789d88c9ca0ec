/-
  Tracks that are moved, lines and legs.
  CONDITIONS: those that each theorem names.
-/
import Derived.Test.YtjhcdndmbilogaaM3
namespace Go.Proofs.Ytjhcdndmbilogaa
set_option linter.unusedVariables false
set_option linter.unusedSimpArgs false
namespace Pl
open Go Eng RK

def mvS (t x y : Ra) (s : Stp) : Stp := (add s.1 t, (add s.2.1 x, add s.2.2 y))
def mvL (t x y : Ra) (l : List Stp) : List Stp := l.map (mvS t x y)
theorem g_lt {l : List Stp} {n : Nat} (h : n < l.length) : g l n = l[n] := by
  unfold g gt
  simp [List.getD, h]
theorem take_g {l : List Stp} {n : Nat} (h : n < l.length) : l.take n ++ [g l n] = l.take (n + 1) := by
  rw [g_lt h, List.take_append_getElem h]
theorem mv_take {t x y : Ra} {l : List Stp} {n : Nat} (h : n < l.length) : mvL t x y (l.take n) ++ [mvS t x y (g l n)] = mvL t x y (l.take (n + 1)) := by
  rw [← take_g h]; simp [mvL]
theorem g_mv {t x y : Ra} {l : List Stp} {n : Nat} (h : n < l.length) : g (mvL t x y l) n = mvS t x y (g l n) := by
  rw [g_lt (by simpa [mvL] using h), g_lt h]; simp [mvL]
noncomputable def moveF (l : List Stp) (t x y : Ra) : List Stp × Bool := if isTrk l = true ∧ isTrk (mvL t x y l) = true then (mvL t x y l, true) else ([], false)

theorem f7_den (l : List Stp) (t x y : Ra) : F7.den (l, ((t, ()), ((x, ()), ((y, ()), ())))) = some (((moveF l t x y).1, ((moveF l t x y).2, ())), ()) := by
  rw [show F7.den = F7.d0 (F7.L0 big) from rfl]
  unfold F7.d0
  simp only
  rw [f24_den]
  simp only [Option.bind_some]
  by_cases hl : isTrk l = true
  · rw [hl]
    have hT := isTrk_t.1 hl
    simp only [Bool.not_true, Bool.false_eq_true, if_false]
    refine itr_inv (B := F7.B0) (fun z : F7.X0 => l.length - z.2.2.2.2.2.2.1.toNat) (fun z => z.1.1 = t ∧ z.2.1.1 = x ∧ z.2.2.1.1 = y ∧ z.2.2.2.2.1 = l ∧ z.2.2.2.2.2.1 = l.length ∧ ∃ n : Nat, z.2.2.2.2.2.2.1 = n ∧ n ≤ l.length ∧ z.2.2.2.1 = mvL t x y (l.take n))
      (fun z o => o = some (((moveF l t x y).1, ((moveF l t x y).2, ())), ())) ?_ big _ ⟨rfl, rfl, rfl, rfl, rfl, 0, rfl, by omega, rfl⟩ (by simp only; unfold big; have := hT.2.1; omega)
    rintro ⟨⟨t', u1⟩, ⟨x', u2⟩, ⟨y', u3⟩, m, l', len, i, u4⟩ rec ⟨e1, e2, e3, e4, e5, n, e6, hn, e7⟩ ih
    simp only at e1 e2 e3 e4 e5 e6 e7 ih
    subst e1; subst e2; subst e3; subst e4; subst e5; subst e6; subst e7
    unfold F7.B0 F7.b0
    simp only
    have h6 := hT.2.1
    by_cases h3 : n < l'.length
    · rw [if_pos (by simp; omega), if_pos (by simp; omega)]
      simp only [Int.toNat_natCast]
      rw [f25_den]
      simp only [Option.bind_some]
      rw [f25_den]
      simp only [Option.bind_some]
      rw [f25_den]
      simp only [Option.bind_some]
      rw [if_pos (by simp only [decide_eq_true_eq, mvL, List.length_map, List.length_take, List.length_singleton]; unfold cap36; omega)]
      have hs : IntKind.wrap .i64 ((n : Int) + 1) = ((n + 1 : Nat) : Int) := by rw [wr (by omega) (by omega)]; omega
      rw [hs]
      exact ih _ ⟨rfl, rfl, rfl, rfl, rfl, n + 1, rfl, by omega, mv_take h3⟩ (by first | omega | (simp only; omega))
    · rw [if_neg (by simp; omega), f24_den]
      have : n = l'.length := by omega
      subst this
      simp only [Option.bind_some, List.take_length]
      unfold moveF
      by_cases hm : isTrk (mvL t' x' y' l') = true
      · rw [if_pos (show isTrk l' = true ∧ isTrk (mvL t' x' y' l') = true from ⟨hl, hm⟩), hm]; rfl
      · rw [if_neg (show ¬ (isTrk l' = true ∧ isTrk (mvL t' x' y' l') = true) from fun h => hm h.2)]
        rw [Bool.not_eq_true] at hm
        rw [hm]; rfl
  · unfold moveF
    rw [if_neg (show ¬ (isTrk l = true ∧ isTrk (mvL t x y l) = true) from fun h => hl h.1)]
    rw [Bool.not_eq_true] at hl
    rw [hl]; rfl
theorem f8_den (l : List Stp) (t x y : Ra) (hlen : l.length ≤ 1000) : F8.den (l, ((t, ()), ((x, ()), ((y, ()), ())))) = some (((moveF l t x y).1, ((moveF l t x y).2, ())), ()) := by
  rw [show F8.den = F8.d0 (F8.L0 big) from rfl]
  unfold F8.d0
  simp only
  have hnil : isTrk [] = false := isTrk_f (fun h => by have := h.1; simp at this)
  refine itr_inv (B := F8.B0) (fun z : F8.X0 => l.length - z.2.2.2.2.2.1.toNat) (fun z => z.1 = l ∧ z.2.1.1 = t ∧ z.2.2.1.1 = x ∧ z.2.2.2.1.1 = y ∧ ∃ n : Nat, z.2.2.2.2.2.1 = n ∧ n ≤ l.length ∧ z.2.2.2.2.1 = mvL t x y (l.take n) ∧ (isTrk l = false → n = 0))
      (fun z o => o = some (((moveF l t x y).1, ((moveF l t x y).2, ())), ())) ?_ big _ ⟨rfl, rfl, rfl, rfl, 0, rfl, by omega, rfl, fun _ => rfl⟩ (by simp only; unfold big; omega)
  rintro ⟨l', ⟨t', u1⟩, ⟨x', u2⟩, ⟨y', u3⟩, m, i, u4⟩ rec ⟨e1, e2, e3, e4, n, e6, hn, e7, hz⟩ ih
  simp only at e1 e2 e3 e4 e6 e7 ih hz
  subst e1; subst e2; subst e3; subst e4; subst e6; subst e7
  unfold F8.B0 F8.b0
  simp only
  by_cases h3 : n < l'.length
  · have hc : (decide (0 ≤ (n : Int)) && decide ((n : Int) < (l'.length : Int))) = true := by simp; omega
    rw [if_pos (by simp; omega), f26_den _ (by omega)]
    simp only [Option.bind_some]
    by_cases hl : isTrk l' = true
    · rw [if_pos hl, if_pos hc]
      simp only [Int.toNat_natCast]
      rw [f11_den]
      simp only [Option.bind_some]
      rw [if_pos hc, f11_den]
      simp only [Option.bind_some]
      rw [if_pos hc, f11_den]
      simp only [Option.bind_some]
      rw [if_pos (by simp only [decide_eq_true_eq, mvL, List.length_map, List.length_take, List.length_singleton]; unfold cap36; omega)]
      have hs : IntKind.wrap .i64 ((n : Int) + 1) = ((n + 1 : Nat) : Int) := by rw [wr (by omega) (by omega)]; omega
      rw [hs]
      exact ih _ ⟨rfl, rfl, rfl, rfl, n + 1, rfl, by omega, mv_take h3, fun h => by rw [hl] at h; cases h⟩ (by first | omega | (simp only; omega))
    · rw [if_neg hl]
      have hl2 := hl
      rw [Bool.not_eq_true] at hl
      have h0 := hz hl
      subst h0
      rw [f26_den _ (by simp [mvL])]
      unfold moveF
      rw [if_neg (show ¬ (isTrk l' = true ∧ isTrk (mvL t' x' y' l') = true) from fun h => hl2 h.1)]
      simp [mvL, hnil]
  · rw [if_neg (by simp; omega), f26_den _ (by simp [mvL]; omega)]
    have : n = l'.length := by omega
    subst this
    simp only [Option.bind_some, List.take_length]
    unfold moveF
    by_cases hl : isTrk l' = true
    · by_cases hm : isTrk (mvL t' x' y' l') = true
      · rw [if_pos (show isTrk l' = true ∧ isTrk (mvL t' x' y' l') = true from ⟨hl, hm⟩), hm]; rfl
      · rw [if_neg (show ¬ (isTrk l' = true ∧ isTrk (mvL t' x' y' l') = true) from fun h => hm h.2)]
        rw [Bool.not_eq_true] at hm
        rw [hm]; rfl
    · rw [if_neg (show ¬ (isTrk l' = true ∧ isTrk (mvL t' x' y' l') = true) from fun h => hl h.1)]
      rw [Bool.not_eq_true] at hl
      have h0 := hz hl
      have : l' = [] := List.length_eq_zero_iff.1 h0
      subst this
      simp [mvL, hnil]

/-! ### Lines and legs -/
abbrev Ln := Ra × Ra
def lineB (a t b u : Ra) : Ln := (dv (sub b a) (sub u t), sub a (mul (dv (sub b a) (sub u t)) t))
def LnOk (l : Ln) : Prop := RK.Ok l.1 ∧ RK.Ok l.2
instance (l : Ln) : Decidable (LnOk l) := by unfold LnOk; infer_instance
theorem f47_den (a t b u : Ra) : F47.den ((a, ()), ((t, ()), ((b, ()), ((u, ()), ())))) = some (((lineB a t b u, ()), ()), ()) := by
  rw [show F47.den = F47.d0 from rfl]
  unfold F47.d0
  simp only
  rw [f56_den]; simp only [Option.bind_some]
  rw [f56_den]; simp only [Option.bind_some]
  rw [f55_den]; simp only [Option.bind_some]
  rw [f29_den]; simp only [Option.bind_some]
  rw [f56_den]; rfl
theorem f48_den (l : Ln) : F48.den ((l, ()), ()) = some ((decide (LnOk l), ()), ()) := by
  rw [show F48.den = F48.d0 from rfl]
  unfold F48.d0
  simp only
  rw [f27_den]; simp only [Option.bind_some]
  by_cases h1 : RK.Ok l.1
  · rw [decide_eq_true h1, if_pos rfl, f27_den]; simp only [Option.bind_some]
    congr 3
    rw [Bool.eq_iff_iff]
    simp [LnOk, h1]
  · rw [decide_eq_false h1, decide_eq_false (fun h : LnOk l => h1 h.1)]; rfl
abbrev Lg := Ra × (Ra × (Ln × Ln))
def legF (a b : Stp) : Lg := (a.1, (b.1, (lineB a.2.1 a.1 b.2.1 b.1, lineB a.2.2 a.1 b.2.2 b.1)))
def LgOk (x : Lg) : Prop := LnOk x.2.2.1 ∧ LnOk x.2.2.2
instance (l : Lg) : Decidable (LgOk l) := by unfold LgOk; infer_instance
theorem f28_den (a b : Stp) : F28.den ((a, ()), ((b, ()), ())) = some (((legF a b, ()), (decide (LgOk (legF a b)), ())), ()) := by
  rw [show F28.den = F28.d0 from rfl]
  unfold F28.d0
  simp only
  rw [f47_den]; simp only [Option.bind_some]
  rw [f47_den]; simp only [Option.bind_some]
  rw [f48_den]; simp only [Option.bind_some]
  by_cases h1 : LnOk (lineB a.2.1 a.1 b.2.1 b.1)
  · rw [decide_eq_true h1, if_pos rfl, f48_den]; simp only [Option.bind_some]
    have : decide (LnOk (lineB a.2.2 a.1 b.2.2 b.1)) = decide (LgOk (legF a b)) := by
      rw [Bool.eq_iff_iff]; simp [LgOk, legF, h1]
    rw [this]; rfl
  · rw [decide_eq_false h1, decide_eq_false (fun h : LgOk (legF a b) => h1 h.1)]; rfl
end Pl
end Go.Proofs.Ytjhcdndmbilogaa
