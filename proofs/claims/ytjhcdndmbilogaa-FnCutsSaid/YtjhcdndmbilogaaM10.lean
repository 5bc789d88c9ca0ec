/-
  A cut track runs along the whole one.
  CONDITIONS: those that each theorem names.
-/
import Derived.Test.YtjhcdndmbilogaaM9
namespace Go.Proofs.Ytjhcdndmbilogaa
set_option linter.unusedVariables false
set_option linter.unusedSimpArgs false
namespace Pl
open Go Eng RK

theorem g_mem {l : List Stp} {i : Nat} (h : i < l.length) : g l i ∈ l := by rw [g_lt h]; exact List.getElem_mem h
theorem mem_g {l : List Stp} {s : Stp} (h : s ∈ l) : ∃ i, i < l.length ∧ g l i = s := by
  obtain ⟨i, hi, e⟩ := List.getElem_of_mem h
  exact ⟨i, hi, by rw [g_lt hi]; exact e⟩
theorem mem_part {l : List Stp} {a b : Ra} {p q : List Ra} {s : Stp} : s ∈ part0 l a b p q ↔ s = (a, (gr p 0, gr p 1)) ∨ (s ∈ l ∧ btw a b s = true) ∨ (b ≠ a ∧ s = (b, (gr q 0, gr q 1))) := by
  unfold part0
  by_cases h : b = a
  · simp [h]
  · simp [h, or_assoc]
theorem cut_sub {l : List Stp} {a b : Ra} (h1 : (posF l a).2 = true) (h2 : (posF l b).2 = true) (h3 : ¬ val b < val a) (hc : Trk (part0 l a b (posF l a).1 (posF l b).1)) :
    Sub (part0 l a b (posF l a).1 (posF l b).1) l := by
  obtain ⟨u, v, e, _, _, o⟩ := posF_on h1
  obtain ⟨u', v', e', _, _, o'⟩ := posF_on h2
  obtain ⟨hT, _⟩ := posF_t h1
  rw [e, e'] at hc ⊢
  generalize hcd : part0 l a b [u, v] [u', v'] = c at hc
  have on : ∀ i, i < c.length → On l (tm c i) (xv c i) (yv c i) := fun i hi => by
    have hm := g_mem hi
    rw [← hcd, mem_part, hcd] at hm
    unfold tm xv yv
    rcases hm with h | ⟨h, _⟩ | ⟨_, h⟩
    · rw [h]; exact o
    · obtain ⟨k, hk, hk2⟩ := mem_g h
      rw [← hk2]; exact on_stop hT hk
    · rw [h]; exact o'
  have rng : ∀ i, i < c.length → val a ≤ tm c i ∧ tm c i ≤ val b := fun i hi => by
    have hm := g_mem hi
    rw [← hcd, mem_part, hcd] at hm
    unfold tm
    rcases hm with h | ⟨_, h⟩ | ⟨_, h⟩
    · rw [h]; exact ⟨by grind, by grind⟩
    · unfold btw at h
      simp only [decide_eq_true_eq] at h
      exact ⟨by grind, by grind⟩
    · rw [h]; exact ⟨by grind, by grind⟩
  refine ⟨on, fun i hi => same_leg hT (on i (by omega)) (on (i + 1) hi) (tm_lt hc (Nat.lt_succ_self i) hi) fun k hk hb => ?_⟩
  have hbt : btw a b (g l k) = true := by
    unfold btw
    simp only [decide_eq_true_eq]
    have r1 := (rng i (by omega)).1
    have r2 := (rng (i + 1) hi).2
    exact ⟨by have := hb.1; unfold tm at *; grind, by have := hb.2; unfold tm at *; grind⟩
  have hmem : g l k ∈ c := by
    rw [← hcd, mem_part]
    exact .inr (.inl ⟨g_mem hk, hbt⟩)
  obtain ⟨m, hm, em⟩ := mem_g hmem
  have et : tm c m = tm l k := by unfold tm; rw [em]
  by_cases hmi : m ≤ i
  · have := tm_le hc hmi (by omega); have := hb.1; grind
  · have := tm_le hc (i := i + 1) (j := m) (by omega) hm; have := hb.2; grind

theorem g_app_l {a d : List Stp} {i : Nat} (h : i < a.length) : g (a ++ d) i = g a i := by
  unfold g gt; simp [List.getD, List.getElem?_append_left h]
theorem g_app_r {a d : List Stp} {i : Nat} (h : a.length ≤ i) : g (a ++ d) i = g d (i - a.length) := by
  unfold g gt; simp [List.getD, List.getElem?_append_right h]
theorem g_drop {c : List Stp} {m : Nat} : g (c.drop 1) m = g c (m + 1) := by
  unfold g gt; simp [List.getD, Nat.add_comm]
theorem join_sub {a c l : List Stp} (ha : Sub a l) (hc : Sub c l) (h1 : 1 ≤ a.length) (h2 : 1 ≤ c.length) (he : g a (a.length - 1) = g c 0) : Sub (a ++ c.drop 1) l := by
  have gc : ∀ i, a.length - 1 ≤ i → g (a ++ c.drop 1) i = g c (i - (a.length - 1)) := fun i hi => by
    by_cases e : i = a.length - 1
    · subst e; rw [g_app_l (by omega), he, Nat.sub_self]
    · rw [g_app_r (by omega), g_drop]; congr 1; omega
  have hlen : (a ++ c.drop 1).length = a.length + c.length - 1 := by simp; omega
  constructor
  · intro i hi
    unfold tm xv yv
    by_cases h : i < a.length
    · rw [g_app_l h]; exact ha.on i h
    · rw [gc i (by omega)]; exact hc.on _ (by omega)
  · intro i hi
    unfold tm xv yv
    by_cases h : i + 1 < a.length
    · rw [g_app_l h, g_app_l (by omega)]; exact ha.leg i h
    · rw [gc i (by omega), gc (i + 1) (by omega), show i + 1 - (a.length - 1) = i - (a.length - 1) + 1 by omega]
      exact hc.leg _ (by omega)

/-! ### Speeds -/
def av (r : Ra) : Rat := val ((r.1.natAbs : Int), r.2)
theorem abs_ok {r : Ra} (h : RK.Ok r) : RK.Ok ((r.1.natAbs : Int), r.2) := by
  obtain ⟨h1, h2, h3, h4, h5⟩ := h
  exact ⟨h1, h2, by simp only; omega, by simp only; omega, by simpa [Int.gcd] using h5⟩
theorem up_ok {b r : Ra} (hb : RK.Ok b) (hr : RK.Ok r) : RK.Ok (up b r) ∧ val b ≤ val (up b r) ∧ av r ≤ val (up b r) ∧ ∀ B, val b ≤ B → av r ≤ B → val (up b r) ≤ B := by
  have ha := abs_ok hr
  unfold up av
  by_cases h : cmp ((r.1.natAbs : Int), r.2) b > 0
  · rw [if_pos h]
    have := (cmp_p ha hb).1 h
    exact ⟨ha, by grind, by grind, fun B h1 h2 => h2⟩
  · rw [if_neg h]
    have : ¬ val b < val ((r.1.natAbs : Int), r.2) := fun h' => h ((cmp_p ha hb).2 h')
    exact ⟨hb, by grind, by grind, fun B h1 h2 => h1⟩
theorem fold_lo : ∀ (legs : List Lg) (b : Ra), RK.Ok b → (∀ x ∈ legs, RK.Ok x.2.2.1.1 ∧ RK.Ok x.2.2.2.1) → RK.Ok (legs.foldl upL b) ∧ val b ≤ val (legs.foldl upL b) ∧ ∀ x ∈ legs, av x.2.2.1.1 ≤ val (legs.foldl upL b) ∧ av x.2.2.2.1 ≤ val (legs.foldl upL b)
  | [], b, hb, _ => ⟨hb, by simp only [List.foldl_nil]; grind, fun x hx => by simp at hx⟩
  | y :: r, b, hb, h => by
    obtain ⟨h1, h2⟩ := h y List.mem_cons_self
    obtain ⟨k1, k2, k3, _⟩ := up_ok hb h1
    obtain ⟨m1, m2, m3, _⟩ := up_ok k1 h2
    obtain ⟨n1, n2, n3⟩ := fold_lo r (upL b y) m1 (fun x hx => h x (List.mem_cons_of_mem _ hx))
    have e : val (upL b y) = val (up (up b y.2.2.1.1) y.2.2.2.1) := rfl
    rw [List.foldl_cons]
    refine ⟨n1, by grind, fun x hx => ?_⟩
    rcases List.mem_cons.1 hx with rfl | hx
    · exact ⟨by grind, by grind⟩
    · exact n3 x hx
theorem fold_hi (B : Rat) : ∀ (legs : List Lg) (b : Ra), RK.Ok b → val b ≤ B → (∀ x ∈ legs, (RK.Ok x.2.2.1.1 ∧ RK.Ok x.2.2.2.1) ∧ av x.2.2.1.1 ≤ B ∧ av x.2.2.2.1 ≤ B) → RK.Ok (legs.foldl upL b) ∧ val (legs.foldl upL b) ≤ B
  | [], b, hb, h0, _ => ⟨hb, h0⟩
  | y :: r, b, hb, h0, h => by
    obtain ⟨⟨h1, h2⟩, h3, h4⟩ := h y List.mem_cons_self
    obtain ⟨k1, _, _, k4⟩ := up_ok hb h1
    obtain ⟨m1, _, _, m4⟩ := up_ok k1 h2
    rw [List.foldl_cons]
    exact fold_hi B r (upL b y) m1 (m4 B (k4 B h0 h3) h4) (fun x hx => h x (List.mem_cons_of_mem _ hx))
theorem mem_lgs {l : List Stp} : ∀ {n : Nat} {x : Lg}, x ∈ lgs l n ↔ ∃ i, i < n ∧ x = legF (g l i) (g l (i + 1))
  | 0, x => by simp [lgs]
  | n + 1, x => by
    simp only [lgs, List.mem_append, List.mem_singleton, mem_lgs (n := n)]
    constructor
    · rintro (⟨i, h, e⟩ | e)
      · exact ⟨i, by omega, e⟩
      · exact ⟨n, by omega, e⟩
    · rintro ⟨i, h, e⟩
      by_cases hi : i = n
      · subst hi; exact .inr e
      · exact .inl ⟨i, by omega, e⟩
theorem speed_legs {l : List Stp} (h : (speedF l).2 = true) : Trk l ∧ ∃ legs, (speedF l).1 = legs.foldl upL (0, 1) ∧ ((l.length = 1 ∧ legs = [rest (g l 0)]) ∨ (1 < l.length ∧ LegsOk l (l.length - 1) ∧ legs = lgs l (l.length - 1))) := by
  unfold speedF at h ⊢
  by_cases c : (legsF l).2 = true
  · rw [if_pos c] at h ⊢
    unfold legsF at c ⊢
    by_cases hl : isTrk l = true
    · have hT := isTrk_t.1 hl
      have := hT.1
      rw [if_pos hl] at c ⊢
      by_cases h1 : l.length = 1
      · rw [if_pos h1]
        exact ⟨hT, _, rfl, .inl ⟨h1, rfl⟩⟩
      · rw [if_neg h1] at c ⊢
        by_cases hk : LegsOk l (l.length - 1)
        · rw [if_pos hk]
          exact ⟨hT, _, rfl, .inr ⟨by omega, hk, rfl⟩⟩
        · rw [if_neg hk] at c; cases c
    · rw [if_neg hl] at c; cases c
  · rw [if_neg c] at h; cases h
theorem rise_val {a t b u : Ra} (h1 : RK.Ok (lineB a t b u).1) : val (lineB a t b u).1 * (val u - val t) = val b - val a := by
  unfold lineB at *
  simp only at *
  obtain ⟨d1, d2, d3, dv1⟩ := dv_ok h1
  obtain ⟨_, _, s1⟩ := sub_ok d1
  obtain ⟨_, _, s2⟩ := sub_ok d2
  rw [dv1, s1, s2]
  rw [s2] at d3
  grind
theorem rise_same {t0 x0 t1 x1 a0 y0 a1 y1 r s : Rat} (ht : t0 < t1) (ha : a0 < a1) (h0 : Seg t0 x0 t1 x1 a0 y0) (h1 : Seg t0 x0 t1 x1 a1 y1) (hr : r * (t1 - t0) = x1 - x0) (hs : s * (a1 - a0) = y1 - y0) : s = r := by
  unfold Seg at *
  have : (a1 - a0) * ((t1 - t0) * (s - r)) = 0 := by grind
  have := mul_cancel (by grind) (mul_cancel (by grind) this)
  grind
theorem ok01 : RK.Ok (0, 1) := by unfold RK.Ok; decide
theorem val01 : val (0, 1) = 0 := by unfold val; simp
theorem speed_sub {c l : List Stp} (hs : Sub c l) (h1 : (speedF l).2 = true) (h2 : (speedF c).2 = true) : ¬ cmp (speedF c).1 (speedF l).1 > 0 := by
  obtain ⟨hl, legs, e, hlegs⟩ := speed_legs h1
  obtain ⟨hc, legs', e', hlegs'⟩ := speed_legs h2
  have goodl : ∀ x ∈ legs, RK.Ok x.2.2.1.1 ∧ RK.Ok x.2.2.2.1 := fun x hx => by
    rcases hlegs with ⟨_, rfl⟩ | ⟨_, hk, rfl⟩
    · simp only [List.mem_singleton] at hx; subst hx; exact ⟨ok01, ok01⟩
    · obtain ⟨i, hi, rfl⟩ := mem_lgs.1 hx
      exact ⟨(hk i hi).1.1, (hk i hi).2.1⟩
  obtain ⟨lo1, lo2, lo3⟩ := fold_lo legs (0, 1) ok01 goodl
  rw [e, e']
  have hhi : RK.Ok (legs'.foldl upL (0, 1)) ∧ val (legs'.foldl upL (0, 1)) ≤ val (legs.foldl upL (0, 1)) := by
    refine fold_hi _ legs' (0, 1) ok01 lo2 fun x hx => ?_
    rcases hlegs' with ⟨_, rfl⟩ | ⟨hlen, hk', rfl⟩
    · simp only [List.mem_singleton] at hx
      subst hx
      have : av (0, 1) = val (0, 1) := rfl
      exact ⟨⟨ok01, ok01⟩, by show av (0, 1) ≤ _; rw [this]; exact lo2, by show av (0, 1) ≤ _; rw [this]; exact lo2⟩
    · obtain ⟨i, hi, rfl⟩ := mem_lgs.1 hx
      obtain ⟨j, j0, j1⟩ := hs.leg i (by omega)
      have hj := j0.lt
      rcases hlegs with ⟨hbad, _⟩ | ⟨_, hk, rfl⟩
      · omega
      · have okl := hk j (by omega)
        have okc := hk' i hi
        have ht := tm_lt hl (Nat.lt_succ_self j) hj
        have ha := tm_lt hc (Nat.lt_succ_self i) (show i + 1 < c.length by omega)
        have rx : (legF (g c i) (g c (i + 1))).2.2.1.1 = (legF (g l j) (g l (j + 1))).2.2.1.1 :=
          okc.1.1.inj okl.1.1 (rise_same ht ha j0.sx j1.sx (rise_val okl.1.1) (rise_val okc.1.1))
        have ry : (legF (g c i) (g c (i + 1))).2.2.2.1 = (legF (g l j) (g l (j + 1))).2.2.2.1 :=
          okc.2.1.inj okl.2.1 (rise_same ht ha j0.sy j1.sy (rise_val okl.2.1) (rise_val okc.2.1))
        have := lo3 _ (mem_lgs.2 ⟨j, by omega, rfl⟩)
        rw [rx, ry]
        exact ⟨⟨okl.1.1, okl.2.1⟩, this⟩
  intro hgt
  have := (cmp_p hhi.1 lo1).1 hgt
  have := hhi.2
  grind
end Pl
end Go.Proofs.Ytjhcdndmbilogaa
