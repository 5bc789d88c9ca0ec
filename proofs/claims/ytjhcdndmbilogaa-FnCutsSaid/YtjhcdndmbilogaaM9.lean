/-
  Tracks as functions of the time.
  CONDITIONS: those that each theorem names.
-/
import Derived.Test.YtjhcdndmbilogaaM8
import Derived.Test.YtjhcdndmbilogaaM6
namespace Go.Proofs.Ytjhcdndmbilogaa
set_option linter.unusedVariables false
set_option linter.unusedSimpArgs false
namespace Pl
open Go Eng RK

def tm (l : List Stp) (i : Nat) : Rat := val (g l i).1
def xv (l : List Stp) (i : Nat) : Rat := val (g l i).2.1
def yv (l : List Stp) (i : Nat) : Rat := val (g l i).2.2
/-- On a straight line. -/
def Seg (t0 x0 t1 x1 t x : Rat) : Prop := x * (t1 - t0) = x0 * (t1 - t) + x1 * (t - t0)
structure Leg (l : List Stp) (i : Nat) (t x y : Rat) : Prop where
  lt : i + 1 < l.length
  lo : tm l i ≤ t
  hi : t ≤ tm l (i + 1)
  sx : Seg (tm l i) (xv l i) (tm l (i + 1)) (xv l (i + 1)) t x
  sy : Seg (tm l i) (yv l i) (tm l (i + 1)) (yv l (i + 1)) t y
def On (l : List Stp) (t x y : Rat) : Prop := (l.length = 1 ∧ t = tm l 0 ∧ x = xv l 0 ∧ y = yv l 0) ∨ ∃ i, Leg l i t x y

theorem mul_cancel {d u : Rat} (hd : d ≠ 0) (h : d * u = 0) : u = 0 := by
  rcases Rat.mul_eq_zero.1 h with h | h
  · exact absurd h hd
  · exact h
theorem seg_l {t0 x0 t1 x1 x : Rat} (h : t0 < t1) (hs : Seg t0 x0 t1 x1 t0 x) : x = x0 := by
  unfold Seg at hs
  have : (t1 - t0) * (x - x0) = 0 := by grind
  have := mul_cancel (by grind) this
  grind
theorem seg_r {t0 x0 t1 x1 x : Rat} (h : t0 < t1) (hs : Seg t0 x0 t1 x1 t1 x) : x = x1 := by
  unfold Seg at hs
  have : (t1 - t0) * (x - x1) = 0 := by grind
  have := mul_cancel (by grind) this
  grind
theorem seg_fun {t0 x0 t1 x1 t x x' : Rat} (h : t0 < t1) (hs : Seg t0 x0 t1 x1 t x) (hs' : Seg t0 x0 t1 x1 t x') : x = x' := by
  unfold Seg at hs hs'
  have : (t1 - t0) * (x - x') = 0 := by grind
  have := mul_cancel (by grind) this
  grind
theorem seg_seg {b0 X0 b1 X1 a0 x0 a1 x1 t x : Rat} (h : a0 < a1) (h0 : Seg b0 X0 b1 X1 a0 x0) (h1 : Seg b0 X0 b1 X1 a1 x1) (hs : Seg a0 x0 a1 x1 t x) : Seg b0 X0 b1 X1 t x := by
  unfold Seg at *
  have : (a1 - a0) * (x * (b1 - b0) - (X0 * (b1 - t) + X1 * (t - b0))) = 0 := by grind
  have := mul_cancel (by grind) this
  grind

section
variable {l : List Stp} (hl : Trk l)
theorem tm_lt (hl : Trk l) {i j : Nat} (h : i < j) (hj : j < l.length) : tm l i < tm l j := hl.mono h hj
theorem tm_le (hl : Trk l) {i j : Nat} (h : i ≤ j) (hj : j < l.length) : tm l i ≤ tm l j := by
  by_cases e : i = j
  · subst e; grind
  · have := tm_lt hl (i := i) (j := j) (by omega) hj; grind
theorem tm_inj (hl : Trk l) {i j : Nat} (hi : i < l.length) (hj : j < l.length) (h : tm l i = tm l j) : i = j := by
  rcases Nat.lt_trichotomy i j with h1 | h1 | h1
  · have := tm_lt hl h1 hj; grind
  · exact h1
  · have := tm_lt hl h1 hi; grind
theorem leg_left (hl : Trk l) {i : Nat} (h : i + 1 < l.length) : Leg l i (tm l i) (xv l i) (yv l i) :=
  ⟨h, by grind, by have := tm_lt hl (Nat.lt_succ_self i) h; grind, by unfold Seg; grind, by unfold Seg; grind⟩
theorem leg_right (hl : Trk l) {i : Nat} (h : i + 1 < l.length) : Leg l i (tm l (i + 1)) (xv l (i + 1)) (yv l (i + 1)) :=
  ⟨h, by have := tm_lt hl (Nat.lt_succ_self i) h; grind, by grind, by unfold Seg; grind, by unfold Seg; grind⟩
theorem leg_move (hl : Trk l) {i j : Nat} {t x y : Rat} (h : Leg l j t x y) (hi : i + 1 < l.length) (h1 : tm l i ≤ t) (h2 : t ≤ tm l (i + 1)) : Leg l i t x y := by
  rcases Nat.lt_trichotomy i j with hij | hij | hij
  · have h3 := tm_le hl (i := i + 1) (j := j) (by omega) (by have := h.lt; omega)
    have e1 : t = tm l j := by have := h.lo; grind
    have e2 : tm l (i + 1) = tm l j := by have := h.lo; grind
    have e3 := tm_inj hl hi (by have := h.lt; omega) e2
    subst e3
    have hlt := tm_lt hl (Nat.lt_succ_self (i + 1)) h.lt
    have ex := seg_l hlt (e1 ▸ h.sx)
    have ey := seg_l hlt (e1 ▸ h.sy)
    rw [e1, ex, ey]
    exact leg_right hl hi
  · subst hij; exact h
  · have h3 := tm_le hl (i := j + 1) (j := i) (by omega) (by omega)
    have e1 : t = tm l (j + 1) := by have := h.hi; grind
    have e2 : tm l (j + 1) = tm l i := by have := h.hi; grind
    have e3 := tm_inj hl h.lt (by omega) e2
    subst e3
    have hlt := tm_lt hl (Nat.lt_succ_self j) h.lt
    have ex := seg_r hlt (e1 ▸ h.sx)
    have ey := seg_r hlt (e1 ▸ h.sy)
    rw [e1, ex, ey]
    exact leg_left hl hi
theorem on_stop (hl : Trk l) {i : Nat} (h : i < l.length) : On l (tm l i) (xv l i) (yv l i) := by
  by_cases h1 : l.length = 1
  · obtain rfl : i = 0 := by omega
    exact .inl ⟨h1, rfl, rfl, rfl⟩
  · by_cases h2 : i + 1 < l.length
    · exact .inr ⟨i, leg_left hl h2⟩
    · obtain ⟨j, rfl⟩ : ∃ j, i = j + 1 := ⟨i - 1, by omega⟩
      exact .inr ⟨j, leg_right hl h⟩
theorem on_fun (hl : Trk l) {t x y x' y' : Rat} (h : On l t x y) (h' : On l t x' y') : x = x' ∧ y = y' := by
  rcases h with ⟨e, h1, h2, h3⟩ | ⟨i, h⟩
  · rcases h' with ⟨_, _, h5, h6⟩ | ⟨j, h'⟩
    · exact ⟨by rw [h2, h5], by rw [h3, h6]⟩
    · have := h'.lt; omega
  · rcases h' with ⟨e, _⟩ | ⟨j, h'⟩
    · have := h.lt; omega
    · have k := leg_move hl h' h.lt h.lo h.hi
      have hlt := tm_lt hl (Nat.lt_succ_self i) h.lt
      exact ⟨seg_fun hlt h.sx k.sx, seg_fun hlt h.sy k.sy⟩
/-- Two places with no stop between them are on one leg. -/
theorem same_leg (hl : Trk l) {t x y t' x' y' : Rat} (h : On l t x y) (h' : On l t' x' y') (htt : t < t') (nb : ∀ k, k < l.length → ¬ (t < tm l k ∧ tm l k < t')) : ∃ j, Leg l j t x y ∧ Leg l j t' x' y' := by
  rcases h with ⟨e, h1, _⟩ | ⟨i, h⟩
  · rcases h' with ⟨_, h2, _⟩ | ⟨j, h'⟩
    · rw [h1, h2] at htt; grind
    · have := h'.lt; omega
  · rcases h' with ⟨e, _⟩ | ⟨i', h'⟩
    · have := h.lt; omega
    · by_cases c : t < tm l (i + 1)
      · have c2 : t' ≤ tm l (i + 1) := by have := nb (i + 1) h.lt; grind
        exact ⟨i, h, leg_move hl h' h.lt (by have := h.lo; grind) c2⟩
      · have e : t = tm l (i + 1) := by have := h.hi; grind
        have hi' : i + 1 ≤ i' := by
          apply Classical.byContradiction
          intro hc
          have := tm_le hl (i := i' + 1) (j := i + 1) (by omega) h.lt
          have := h'.hi
          grind
        have h2 : i + 1 + 1 < l.length := by have := h'.lt; omega
        have c2 : t' ≤ tm l (i + 1 + 1) := by have := nb (i + 1 + 1) h2; have := tm_lt hl (Nat.lt_succ_self (i + 1)) h2; grind
        have hlt := tm_lt hl (Nat.lt_succ_self (i + 1)) h2
        exact ⟨i + 1, leg_move hl h h2 (by grind) (by grind), leg_move hl h' h2 (by grind) c2⟩
end

/-- A track that runs along another one. -/
structure Sub (c l : List Stp) : Prop where
  on : ∀ i, i < c.length → On l (tm c i) (xv c i) (yv c i)
  leg : ∀ i, i + 1 < c.length → ∃ j, Leg l j (tm c i) (xv c i) (yv c i) ∧ Leg l j (tm c (i + 1)) (xv c (i + 1)) (yv c (i + 1))
theorem Sub.to {c l : List Stp} (h : Sub c l) (hc : Trk c) {t x y : Rat} (ho : On c t x y) : On l t x y := by
  rcases ho with ⟨e, rfl, rfl, rfl⟩ | ⟨i, k⟩
  · exact h.on 0 (by omega)
  · obtain ⟨j, k0, k1⟩ := h.leg i k.lt
    have hlt := tm_lt hc (Nat.lt_succ_self i) k.lt
    exact .inr ⟨j, k0.lt, by have := k0.lo; have := k.lo; grind, by have := k1.hi; have := k.hi; grind, seg_seg hlt k0.sx k1.sx k.sx, seg_seg hlt k0.sy k1.sy k.sy⟩

/-! ### Positions -/
theorem line_seg {a t b u p : Ra} (h1 : RK.Ok (lineB a t b u).1) (h2 : RK.Ok (lineB a t b u).2) (h3 : RK.Ok (onL (lineB a t b u) p)) : Seg (val t) (val a) (val u) (val b) (val p) (val (onL (lineB a t b u) p)) := by
  unfold onL lineB at *
  simp only at *
  obtain ⟨d1, d2, d3, dv1⟩ := dv_ok h1
  obtain ⟨_, _, s1⟩ := sub_ok d1
  obtain ⟨_, _, s2⟩ := sub_ok d2
  obtain ⟨_, m1, s3⟩ := sub_ok h2
  obtain ⟨_, _, s4⟩ := mul_ok m1
  obtain ⟨m2, _, s5⟩ := add_ok h3
  obtain ⟨_, _, s6⟩ := mul_ok m2
  unfold Seg
  rw [s5, s6, s3, s4]
  have e : val (dv (sub b a) (sub u t)) * (val u - val t) = val b - val a := by
    rw [dv1, s1, s2]
    rw [s2] at d3
    grind
  grind
theorem posG_on {l : List Stp} (hl : Trk l) {p : Ra} (hp : RK.Ok p) : ∀ (k i : Nat), i + k = l.length → (∀ j, j < i → tm l j < val p) → (posG l p k i).2 = true →
    ∃ u v, (posG l p k i).1 = [u, v] ∧ RK.Ok u ∧ RK.Ok v ∧ On l (val p) (val u) (val v)
  | 0, i, _, _, h => by simp [posG] at h
  | k + 1, i, hi, hall, h => by
    have ok := hl.ok (i := i) (by omega)
    rw [posG_succ] at h ⊢
    by_cases c0 : cmp p (g l i).1 = 0
    · rw [if_pos c0]
      have e := (cmp_0 hp ok.1).1 c0
      refine ⟨_, _, rfl, ok.2.1, ok.2.2, ?_⟩
      rw [e]
      exact on_stop hl (i := i) (by omega)
    · rw [if_neg c0] at h ⊢
      by_cases c1 : cmp p (g l i).1 > 0
      · rw [if_pos c1] at h ⊢
        have hv := (cmp_p hp ok.1).1 c1
        exact posG_on hl hp k (i + 1) (by omega) (fun j hj => by
          by_cases e : j = i
          · subst e; exact hv
          · exact hall j (by omega)) h
      · rw [if_neg c1] at h ⊢
        by_cases c2 : i = 0
        · rw [if_pos c2] at h; cases h
        · rw [if_neg c2] at h ⊢
          obtain ⟨j, rfl⟩ : ∃ j, i = j + 1 := ⟨i - 1, by omega⟩
          rw [show j + 1 - 1 = j by omega] at h ⊢
          have hv : val p ≤ tm l (j + 1) := by
            have h1 : ¬ val (g l (j + 1)).1 < val p := fun h => c1 ((cmp_p hp ok.1).2 h)
            unfold tm; grind
          have hlo := hall j (by omega)
          unfold legPos at h ⊢
          split at h
          · rename_i hc
            rw [if_pos hc]
            obtain ⟨⟨⟨q0, q1⟩, q2, q3⟩, q4, q5⟩ := hc
            exact ⟨_, _, rfl, q4, q5, .inr ⟨j, by omega, by grind, hv, line_seg q0 q1 q4, line_seg q2 q3 q5⟩⟩
          · cases h
theorem posF_on {l : List Stp} {p : Ra} (h : (posF l p).2 = true) : ∃ u v, (posF l p).1 = [u, v] ∧ RK.Ok u ∧ RK.Ok v ∧ On l (val p) (val u) (val v) := by
  obtain ⟨hT, hp, e, _⟩ := posF_t h
  rw [e] at h ⊢
  exact posG_on hT hp l.length 0 (by omega) (fun j hj => absurd hj (by omega)) h
theorem pos_sub {c l : List Stp} (hs : Sub c l) {p : Ra} (h : (posF l p).2 = true) (h' : (posF c p).2 = true) : (posF c p).1 = (posF l p).1 := by
  obtain ⟨u, v, e, ou, ov, o⟩ := posF_on h
  obtain ⟨u', v', e', ou', ov', o'⟩ := posF_on h'
  obtain ⟨hT, _⟩ := posF_t h
  obtain ⟨hC, _⟩ := posF_t h'
  obtain ⟨hx, hy⟩ := on_fun hT o (hs.to hC o')
  rw [e, e', ou.inj ou' hx, ov.inj ov' hy]
end Pl
end Go.Proofs.Ytjhcdndmbilogaa
