/-
  Laws.FnMoved is true, about the printed functions.
  CONDITIONS: those that each theorem names.
-/
import Derived.Test.YtjhcdndmbilogaaM5
namespace Go.Proofs.Ytjhcdndmbilogaa
set_option linter.unusedVariables false
set_option linter.unusedSimpArgs false
namespace Pl
open Go Eng RK

theorem add_ok {a b : Ra} (h : RK.Ok (add a b)) : RK.Ok a ∧ RK.Ok b ∧ val (add a b) = val a + val b := by
  unfold add at h ⊢
  by_cases hc : RK.Ok a ∧ RK.Ok b
  · rw [if_pos hc] at h ⊢; exact ⟨hc.1, hc.2, canon_val h⟩
  · rw [if_neg hc] at h; exact absurd h not_ok0
theorem sub_ok {a b : Ra} (h : RK.Ok (sub a b)) : RK.Ok a ∧ RK.Ok b ∧ val (sub a b) = val a - val b := by
  unfold sub at h ⊢
  by_cases hc : RK.Ok a ∧ RK.Ok b
  · rw [if_pos hc] at h ⊢; exact ⟨hc.1, hc.2, canon_val h⟩
  · rw [if_neg hc] at h; exact absurd h not_ok0
theorem mul_ok {a b : Ra} (h : RK.Ok (mul a b)) : RK.Ok a ∧ RK.Ok b ∧ val (mul a b) = val a * val b := by
  unfold mul at h ⊢
  by_cases hc : RK.Ok a ∧ RK.Ok b
  · rw [if_pos hc] at h ⊢; exact ⟨hc.1, hc.2, canon_val h⟩
  · rw [if_neg hc] at h; exact absurd h not_ok0
theorem dv_ok {a b : Ra} (h : RK.Ok (dv a b)) : RK.Ok a ∧ RK.Ok b ∧ val b ≠ 0 ∧ val (dv a b) = val a / val b := by
  unfold dv at h ⊢
  by_cases hc : RK.Ok a ∧ RK.Ok b ∧ val b ≠ 0
  · rw [if_pos hc] at h ⊢; exact ⟨hc.1, hc.2.1, hc.2.2, canon_val h⟩
  · rw [if_neg hc] at h; exact absurd h not_ok0
theorem add_eq {a b : Ra} (ha : RK.Ok a) (hb : RK.Ok b) : add a b = canon (val a + val b) := by unfold add; rw [if_pos ⟨ha, hb⟩]
theorem sub_eq' {a b : Ra} (ha : RK.Ok a) (hb : RK.Ok b) : sub a b = canon (val a - val b) := by unfold sub; rw [if_pos ⟨ha, hb⟩]
theorem sub_shift {a b x : Ra} (hb : RK.Ok (add b x)) (ha : RK.Ok (add a x)) : sub (add b x) (add a x) = sub b a := by
  obtain ⟨b1, x1, vb⟩ := add_ok hb
  obtain ⟨a1, _, va⟩ := add_ok ha
  rw [sub_eq' hb ha, sub_eq' b1 a1, va, vb]
  congr 1
  grind
theorem cmp_shift {p s T : Ra} (hp : RK.Ok (add p T)) (hs : RK.Ok (add s T)) : cmp (add p T) (add s T) = cmp p s := by
  obtain ⟨p1, t1, vp⟩ := add_ok hp
  obtain ⟨s1, _, vs⟩ := add_ok hs
  have e : ∀ u v w : Rat, (u + w < v + w) = (u < v) := fun u v w => by
    apply propext; constructor <;> intro h <;> grind
  unfold cmp
  rw [if_pos (show RK.Ok (add p T) ∧ RK.Ok (add s T) from ⟨hp, hs⟩), if_pos (show RK.Ok p ∧ RK.Ok s from ⟨p1, s1⟩), vp, vs]
  simp only [e]

section
variable {l : List Stp} {t x y : Ra}
theorem mv_st (hm : Trk (mvL t x y l)) {i : Nat} (hi : i < l.length) : StOk (mvS t x y (g l i)) := by
  have := (hm.2.2 i (by simpa [mvL] using hi)).1
  rwa [g_mv hi] at this
theorem rise_x (hm : Trk (mvL t x y l)) {i : Nat} (hi : i + 1 < l.length) : (legF (g (mvL t x y l) i) (g (mvL t x y l) (i + 1))).2.2.1.1 = (legF (g l i) (g l (i + 1))).2.2.1.1 := by
  have h1 := mv_st hm (i := i) (by omega)
  have h2 := mv_st hm (i := i + 1) hi
  rw [g_mv (by omega), g_mv hi]
  unfold legF lineB mvS
  simp only
  rw [sub_shift h2.2.1 h1.2.1, sub_shift h2.1 h1.1]
theorem rise_y (hm : Trk (mvL t x y l)) {i : Nat} (hi : i + 1 < l.length) : (legF (g (mvL t x y l) i) (g (mvL t x y l) (i + 1))).2.2.2.1 = (legF (g l i) (g l (i + 1))).2.2.2.1 := by
  have h1 := mv_st hm (i := i) (by omega)
  have h2 := mv_st hm (i := i + 1) hi
  rw [g_mv (by omega), g_mv hi]
  unfold legF lineB mvS
  simp only
  rw [sub_shift h2.2.2 h1.2.2, sub_shift h2.1 h1.1]
theorem fold_mv (hm : Trk (mvL t x y l)) (b : Ra) : ∀ n, n + 1 ≤ l.length → (lgs (mvL t x y l) n).foldl upL b = (lgs l n).foldl upL b
  | 0, _ => rfl
  | n + 1, h => by
    simp only [lgs, List.foldl_append, List.foldl_cons, List.foldl_nil]
    rw [fold_mv hm b n (by omega)]
    unfold upL
    rw [rise_x hm (by omega), rise_y hm (by omega)]
theorem speed_mv (hl : Trk l) (hm : Trk (mvL t x y l)) (h1 : (speedF l).2 = true) (h2 : (speedF (mvL t x y l)).2 = true) : (speedF (mvL t x y l)).1 = (speedF l).1 := by
  unfold speedF at h1 h2 ⊢
  have c1 : (legsF l).2 = true := by
    by_cases h : (legsF l).2 = true
    · exact h
    · rw [if_neg h] at h1; cases h1
  have c2 : (legsF (mvL t x y l)).2 = true := by
    by_cases h : (legsF (mvL t x y l)).2 = true
    · exact h
    · rw [if_neg h] at h2; cases h2
  rw [if_pos c1, if_pos c2]
  simp only
  have hlen : (mvL t x y l).length = l.length := by simp [mvL]
  unfold legsF at c1 c2 ⊢
  rw [if_pos (isTrk_t.2 hl)] at c1 ⊢
  rw [if_pos (isTrk_t.2 hm)] at c2 ⊢
  rw [hlen] at c2 ⊢
  by_cases h : l.length = 1
  · rw [if_pos h, if_pos h]; rfl
  · rw [if_neg h] at c1 c2 ⊢
    rw [if_neg h]
    have d1 : LegsOk l (l.length - 1) := by
      by_cases hh : LegsOk l (l.length - 1)
      · exact hh
      · rw [if_neg hh] at c1; cases c1
    have d2 : LegsOk (mvL t x y l) (l.length - 1) := by
      by_cases hh : LegsOk (mvL t x y l) (l.length - 1)
      · exact hh
      · rw [if_neg hh] at c2; cases c2
    rw [if_pos d1, if_pos d2]
    exact fold_mv hm (0, 1) _ (by have := hl.1; omega)

theorem on_mv {r A tA T p z : Ra} (hb : RK.Ok (sub A (mul r tA))) (hb' : RK.Ok (sub (add A z) (mul r (add tA T)))) (ho : RK.Ok (add (mul r p) (sub A (mul r tA))))
    (ho' : RK.Ok (add (mul r (add p T)) (sub (add A z) (mul r (add tA T))))) : add (mul r (add p T)) (sub (add A z) (mul r (add tA T))) = add (add (mul r p) (sub A (mul r tA))) z := by
  obtain ⟨a1, a2, va⟩ := sub_ok hb
  obtain ⟨b1, b2, vb⟩ := sub_ok hb'
  obtain ⟨c1, c2, vc⟩ := add_ok ho
  obtain ⟨d1, d2, vd⟩ := add_ok ho'
  obtain ⟨_, z1, vz⟩ := add_ok b1
  obtain ⟨_, _, v1⟩ := mul_ok a2
  obtain ⟨_, e2, v2⟩ := mul_ok b2
  obtain ⟨_, _, v3⟩ := mul_ok c1
  obtain ⟨_, e4, v4⟩ := mul_ok d1
  obtain ⟨_, _, v5⟩ := add_ok e2
  obtain ⟨_, _, v6⟩ := add_ok e4
  rw [add_eq ho z1, ← ho'.canon]
  congr 1
  rw [vd, vb, v4, v6, vz, v2, v5, vc, v3, va, v1]
  grind
theorem pos_mv (hm : Trk (mvL t x y l)) {p : Ra} (hp : RK.Ok (add p t)) : ∀ (k i : Nat), i + k = l.length → ∀ a b, posG l p k i = (a, true) → posG (mvL t x y l) (add p t) k i = (b, true) → ∃ u v, a = [u, v] ∧ b = [add u x, add v y]
  | 0, i, _, a, b, h, _ => by simp [posG] at h
  | k + 1, i, hi, a, b, h, h' => by
    rw [posG_succ] at h h'
    have hs := mv_st hm (i := i) (by omega)
    rw [g_mv (by omega)] at h'
    rw [show (mvS t x y (g l i)).1 = add (g l i).1 t from rfl, cmp_shift hp hs.1] at h'
    by_cases c0 : cmp p (g l i).1 = 0
    · rw [if_pos c0] at h h'
      cases h; cases h'
      exact ⟨_, _, rfl, rfl⟩
    · rw [if_neg c0] at h h'
      by_cases c1 : cmp p (g l i).1 > 0
      · rw [if_pos c1] at h h'
        exact pos_mv hm hp k (i + 1) (by omega) a b h h'
      · rw [if_neg c1] at h h'
        by_cases c2 : i = 0
        · rw [if_pos c2] at h; cases h
        · rw [if_neg c2] at h h'
          unfold legPos at h h'
          obtain ⟨j, rfl⟩ : ∃ j, i = j + 1 := ⟨i - 1, by omega⟩
          rw [show j + 1 - 1 = j by omega] at h h'
          rw [← g_mv (by omega)] at h'
          have rx := rise_x hm (i := j) (by omega)
          have ry := rise_y hm (i := j) (by omega)
          split at h
          · rename_i hc
            split at h'
            · rename_i hc'
              cases h; cases h'
              refine ⟨_, _, rfl, ?_⟩
              obtain ⟨⟨⟨_, q1⟩, _, q2⟩, q3, q4⟩ := hc
              obtain ⟨⟨⟨_, q1'⟩, _, q2'⟩, q3', q4'⟩ := hc'
              rw [g_mv (by omega), g_mv (by omega)] at rx ry q1' q2' q3' q4' ⊢
              have e : ∀ (c : Stp → Ra) (ra rb : Ra), ra = rb → True := fun _ _ _ _ => trivial
              have X : onL (legF (mvS t x y (g l j)) (mvS t x y (g l (j + 1)))).2.2.1 (add p t) = add (onL (legF (g l j) (g l (j + 1))).2.2.1 p) x := by
                unfold onL legF lineB at *
                unfold mvS at *
                simp only at *
                rw [rx] at q1' q3' ⊢
                exact on_mv q1 q1' q3 q3'
              have Y : onL (legF (mvS t x y (g l j)) (mvS t x y (g l (j + 1)))).2.2.2 (add p t) = add (onL (legF (g l j) (g l (j + 1))).2.2.2 p) y := by
                unfold onL legF lineB at *
                unfold mvS at *
                simp only at *
                rw [ry] at q2' q4' ⊢
                exact on_mv q2 q2' q4 q4'
              rw [X, Y]
            · cases h'
          · cases h
end

theorem moveF_f {l : List Stp} {t x y : Ra} (h : ¬ (moveF l t x y).2 = true) : (moveF l t x y) = ([], false) := by
  unfold moveF at h ⊢
  by_cases hc : isTrk l = true ∧ isTrk (mvL t x y l) = true
  · rw [if_pos hc] at h; exact absurd rfl h
  · rw [if_neg hc]
theorem moveF_t {l : List Stp} {t x y : Ra} (h : (moveF l t x y).2 = true) : (moveF l t x y) = (mvL t x y l, true) ∧ Trk l ∧ Trk (mvL t x y l) := by
  unfold moveF at h ⊢
  by_cases hc : isTrk l = true ∧ isTrk (mvL t x y l) = true
  · rw [if_pos hc]; exact ⟨rfl, isTrk_t.1 hc.1, isTrk_t.1 hc.2⟩
  · rw [if_neg hc] at h; cases h
theorem posF_mv {l : List Stp} {t x y p : Ra} (hl : Trk l) (hm : Trk (mvL t x y l)) (h1 : (posF l p).2 = true) (h2 : (posF (mvL t x y l) (add p t)).2 = true) :
    ∃ u v, (posF l p).1 = [u, v] ∧ (posF (mvL t x y l) (add p t)).1 = [add u x, add v y] := by
  have hp : RK.Ok (add p t) := by
    unfold posF at h2
    by_cases h : isTrk (mvL t x y l) = true ∧ RK.Ok (add p t)
    · exact h.2
    · rw [if_neg h] at h2; cases h2
  have hlen : (mvL t x y l).length = l.length := by simp [mvL]
  unfold posF at h1 h2 ⊢
  have c1 : isTrk l = true ∧ RK.Ok p := ⟨isTrk_t.2 hl, (add_ok hp).1⟩
  have c2 : isTrk (mvL t x y l) = true ∧ RK.Ok (add p t) := ⟨isTrk_t.2 hm, hp⟩
  rw [if_pos c1] at h1 ⊢
  rw [if_pos c2] at h2 ⊢
  rw [hlen] at h2 ⊢
  exact pos_mv hm hp l.length 0 (by omega) _ _ (Prod.ext rfl h1) (Prod.ext rfl h2)
theorem f3_den (code : List Int) : F3.den (code, ()) = some ((true, ()), ()) := by
  rw [show F3.den = F3.d0 from rfl]
  unfold F3.d0
  simp only
  rw [show F5.den (code, ()) = some ((decide ((code.length : Int) > 1048576), ()), ()) from rfl]
  simp only [Option.bind_some]
  by_cases hb : (code.length : Int) > 1048576
  · rw [decide_eq_true hb]; rfl
  rw [decide_eq_false hb]
  simp only [Bool.false_eq_true, if_false]
  obtain ⟨⟨⟨l, ⟨t, _⟩, ⟨x, _⟩, ⟨y, _⟩, _⟩, _⟩, e6, hl⟩ := f6_ends code (by omega)
  rw [e6]
  simp only at hl
  simp only [Option.bind_some]
  rw [f7_den]
  simp only [Option.bind_some]
  rw [f8_den _ _ _ _ (by omega)]
  simp only [Option.bind_some]
  rw [if_neg (by simp)]
  by_cases hM : ¬ (moveF l t x y).2 = true
  · rw [moveF_f hM]; rfl
  obtain ⟨eM, tl, tm⟩ := moveF_t (Decidable.not_not.1 hM)
  rw [eM]
  simp only [Bool.not_true, Bool.false_eq_true, if_false]
  obtain ⟨⟨⟨ps, _⟩, _⟩, e9, hp⟩ := f9_ends code (by omega) 1 (by omega) (by omega)
  rw [e9]
  simp only at hp
  simp only [Option.bind_some]
  have hps : ps.length = 1 := by omega
  have hc : (decide (0 ≤ (0 : Int)) && decide (0 < ((ps.length : Nat) : Int))) = true := by rw [hps]; rfl
  rw [if_pos hc, f10_den]
  simp only [Option.bind_some]
  rw [if_pos hc, f11_den]
  simp only [Option.bind_some]
  rw [f10_den]
  simp only [Option.bind_some]
  rw [f12_den]
  simp only [Option.bind_some]
  rw [f12_den]
  simp only [Option.bind_some]
  generalize (gt (.pair (.int .i64) (.int .i64)) ps (Int.toNat 0)) = p
  have key : (if (!(posF l p).2) = false then (if (!(posF (mvL t x y l) (add p t)).2) = false then (if (decide (0 ≤ (0 : Int)) && decide (0 < (((posF l p).1.length : Nat) : Int))) = true then (Option.bind (F11.den (((gt (.pair (.int .i64) (.int .i64)) (posF l p).1 (Int.toNat 0)), ()), ((x, ()), ()))) fun y11 => (if (decide (0 ≤ (0 : Int)) && decide (0 < (((posF (mvL t x y l) (add p t)).1.length : Nat) : Int))) = true then (if (((y11.1.1.1.1 : Int) == (gt (.pair (.int .i64) (.int .i64)) (posF (mvL t x y l) (add p t)).1 (Int.toNat 0)).1) && (((y11.1.1.1.2 : Int) == (gt (.pair (.int .i64) (.int .i64)) (posF (mvL t x y l) (add p t)).1 (Int.toNat 0)).2) && true)) = true then (if (decide (0 ≤ (1 : Int)) && decide (1 < (((posF l p).1.length : Nat) : Int))) = true then (Option.bind (F11.den (((gt (.pair (.int .i64) (.int .i64)) (posF l p).1 (Int.toNat 1)), ()), ((y, ()), ()))) fun y12 => (if (decide (0 ≤ (1 : Int)) && decide (1 < (((posF (mvL t x y l) (add p t)).1.length : Nat) : Int))) = true then (some (((((y12.1.1.1.1 : Int) == (gt (.pair (.int .i64) (.int .i64)) (posF (mvL t x y l) (add p t)).1 (Int.toNat 1)).1) && (((y12.1.1.1.2 : Int) == (gt (.pair (.int .i64) (.int .i64)) (posF (mvL t x y l) (add p t)).1 (Int.toNat 1)).2) && true)), ()), ())) else none)) else none) else (some ((false, ()), ()))) else none)) else none) else (some ((true, ()), ()))) else (some ((true, ()), ()))) = (some ((true, ()), ()) : F3.Y) := by
    by_cases h1 : (posF l p).2 = true
    · by_cases h2 : (posF (mvL t x y l) (add p t)).2 = true
      · obtain ⟨u, v, ea, eb⟩ := posF_mv tl tm h1 h2
        rw [h1, h2, ea, eb]
        rw [if_pos (show (!true) = false from rfl), if_pos (show (!true) = false from rfl), if_pos (by rfl)]
        rw [show gt (.pair (.int .i64) (.int .i64)) [u, v] (Int.toNat 0) = u from rfl, f11_den]
        simp only [Option.bind_some]
        rw [if_pos (by rfl), show gt (.pair (.int .i64) (.int .i64)) [add u x, add v y] (Int.toNat 0) = add u x from rfl, if_pos (by simp), if_pos (by rfl)]
        rw [show gt (.pair (.int .i64) (.int .i64)) [u, v] (Int.toNat 1) = v from rfl, f11_den]
        simp only [Option.bind_some]
        rw [if_pos (by rfl), show gt (.pair (.int .i64) (.int .i64)) [add u x, add v y] (Int.toNat 1) = add v y from rfl]
        simp
      · rw [Bool.not_eq_true] at h2
        rw [h1, h2]; rfl
    · rw [Bool.not_eq_true] at h1
      rw [h1]; rfl
  by_cases s1 : (speedF l).2 = true
  · rw [if_pos s1]
    by_cases s2 : (speedF (mvL t x y l)).2 = true
    · rw [if_pos s2, speed_mv tl tm s1 s2, if_neg (by simp)]
      exact key
    · rw [if_neg s2]
      exact key
  · rw [if_neg s1]
    exact key
end Pl
end Go.Proofs.Ytjhcdndmbilogaa
