/-
  Laws.FnCuts is true, about the printed functions.
  CONDITIONS: those that each theorem names.
-/
import Derived.Test.YtjhcdndmbilogaaM10
namespace Go.Proofs.Ytjhcdndmbilogaa
set_option linter.unusedVariables false
set_option linter.unusedSimpArgs false
namespace Pl
open Go Eng RK

theorem f16_same (p : List Ra) (hlen : p.length ≤ 1000) : F16.den (p, (p, ())) = some ((true, ()), ()) := by
  rw [show F16.den = F16.d0 (F16.L0 big) from rfl]
  unfold F16.d0
  simp only
  rw [if_neg (by simp)]
  refine itr_inv (B := F16.B0) (fun z : F16.X0 => p.length - z.2.2.1.toNat) (fun z => z.1 = p ∧ z.2.1 = p ∧ ∃ n : Nat, z.2.2.1 = n ∧ n ≤ p.length) (fun z o => o = some ((true, ()), ())) ?_ big _ ⟨rfl, rfl, 0, rfl, by omega⟩ (by simp only; unfold big; omega)
  rintro ⟨p', p'', i, u⟩ rec ⟨e1, e2, n, e3, hn⟩ ih
  simp only at e1 e2 e3 ih
  subst e1; subst e2; subst e3
  unfold F16.B0 F16.b0
  simp only
  by_cases h : n < p''.length
  · have hs : IntKind.wrap .i64 ((n : Int) + 1) = ((n + 1 : Nat) : Int) := by rw [wr (by omega) (by omega)]; omega
    rw [if_pos (by simp; omega), if_pos (by simp; omega), if_pos (by simp; omega), if_neg (by simp), hs]
    exact ih _ ⟨rfl, rfl, n + 1, rfl, by omega⟩ (by first | omega | (simp only; omega))
  · rw [if_neg (by simp; omega)]
theorem cutF_f {l : List Stp} {a b : Ra} (h : ¬ (cutF l a b).2 = true) : cutF l a b = ([], false) := by
  unfold cutF at h ⊢
  split
  · rename_i hc; rw [if_pos hc] at h; exact absurd rfl h
  · rfl
theorem cutF_t {l : List Stp} {a b : Ra} (h : (cutF l a b).2 = true) : cutF l a b = (part0 l a b (posF l a).1 (posF l b).1, true) ∧ Trk l ∧ Trk (part0 l a b (posF l a).1 (posF l b).1) ∧ Sub (part0 l a b (posF l a).1 (posF l b).1) l := by
  unfold cutF at h ⊢
  by_cases hc : (posF l a).2 = true ∧ (posF l b).2 = true ∧ ¬ val b < val a ∧ isTrk (part0 l a b (posF l a).1 (posF l b).1) = true
  · rw [if_pos hc]
    have hk := isTrk_t.1 hc.2.2.2
    exact ⟨rfl, (posF_t hc.1).1, hk, cut_sub hc.1 hc.2.1 hc.2.2.1 hk⟩
  · rw [if_neg hc] at h; cases h
theorem joinF_t {a b : List Stp} (h : (joinF a b).2 = true) : (joinF a b).1 = a ++ b.drop 1 ∧ g a (a.length - 1) = g b 0 := by
  unfold joinF at h ⊢
  by_cases hc : isTrk a = true ∧ isTrk b = true ∧ g a (a.length - 1) = g b 0 ∧ a.length + b.length - 1 ≤ 6
  · rw [if_pos hc]; exact ⟨rfl, hc.2.2.1⟩
  · rw [if_neg hc] at h; cases h
theorem posF_len {l : List Stp} {p : Ra} : (posF l p).1.length ≤ 1000 := by
  by_cases h : (posF l p).2 = true
  · have := (posF_t h).2.2.2; omega
  · unfold posF at h ⊢
    split
    · rename_i hc
      rw [if_pos hc] at h
      have : ∀ k i, ¬ (posG l p k i).2 = true → (posG l p k i).1.length ≤ 1000 := fun k => by
        induction k with
        | zero => intro i _; simp [posG]
        | succ k ih =>
          intro i h
          rw [posG_succ] at h ⊢
          split
          · simp
          · rename_i c0
            rw [if_neg c0] at h
            split
            · rename_i c1; rw [if_pos c1] at h; exact ih _ h
            · split
              · simp
              · unfold legPos; split <;> simp
      exact this _ _ h
    · simp
theorem rest_cuts {l : List Stp} {a b : Ra} (ps : List Ra) (hps : ps.length = 1) (hl : Trk l) (hc : Trk (part0 l a b (posF l a).1 (posF l b).1)) (hs : Sub (part0 l a b (posF l a).1 (posF l b).1) l) (p : Ra) :
    (if (decide (0 ≤ (0 : Int)) && decide (0 < ((List.length l : Nat) : Int))) = true then (Option.bind (F14.den (l, (((gt (.pair (.pair (.int .i64) (.int .i64)) (.pair (.pair (.int .i64) (.int .i64)) (.pair (.int .i64) (.int .i64)))) l (Int.toNat 0)).1, ()), ((a, ()), ())))) fun y46 => (Option.bind (F18.den (y46.1.1, ((part0 l a b (posF l a).1 (posF l b).1), ()))) fun y47 => (if (decide (0 ≤ (0 : Int)) && decide (0 < ((List.length ps : Nat) : Int))) = true then (Option.bind (F10.den (y47.1.1, ((p, ()), ()))) fun y48 => (if (!y46.1.2.1) = false then (if (!y47.1.2.1) = false then (if (!y48.1.2.1) = false then (if (!(posF l p).2) = false then (Option.bind (F16.den ((posF l p).1, (y48.1.1, ()))) fun y49 => (some ((y49.1.1, ()), ()))) else (some ((true, ()), ()))) else (some ((true, ()), ()))) else (some ((true, ()), ()))) else (some ((true, ()), ())))) else none))) else none) = (some ((true, ()), ()) : F4.Y) := by
  have h1 : 1 ≤ l.length := hl.1
  have hcp : (decide (0 ≤ (0 : Int)) && decide (0 < ((ps.length : Nat) : Int))) = true := by rw [hps]; rfl
  rw [if_pos (by simp; omega), f14_den]
  simp only [Option.bind_some]
  rw [f18_den]
  simp only [Option.bind_some]
  rw [if_pos hcp, f10_den]
  simp only [Option.bind_some]
  rw [show (gt (.pair (.pair (.int .i64) (.int .i64)) (.pair (.pair (.int .i64) (.int .i64)) (.pair (.int .i64) (.int .i64)))) l (Int.toNat 0)).1 = (g l 0).1 from rfl]
  by_cases k1 : (cutF l (g l 0).1 a).2 = true
  · obtain ⟨e1, _, t1, s1⟩ := cutF_t k1
    rw [e1]
    by_cases k2 : (joinF (part0 l (g l 0).1 a (posF l (g l 0).1).1 (posF l a).1) (part0 l a b (posF l a).1 (posF l b).1)).2 = true
    · obtain ⟨e2, he⟩ := joinF_t k2
      have sj := join_sub s1 hs t1.1 hc.1 he
      rw [k2, e2]
      by_cases k3 : (posF (part0 l (g l 0).1 a (posF l (g l 0).1).1 (posF l a).1 ++ List.drop 1 (part0 l a b (posF l a).1 (posF l b).1)) p).2 = true
      · rw [k3]
        by_cases k4 : (posF l p).2 = true
        · rw [k4, pos_sub sj k4 k3, f16_same _ posF_len]; rfl
        · rw [Bool.not_eq_true] at k4
          rw [k4]; rfl
      · rw [Bool.not_eq_true] at k3
        rw [k3]; rfl
    · rw [Bool.not_eq_true] at k2
      rw [k2]; rfl
  · rw [Bool.not_eq_true] at k1
    rw [k1]; rfl
theorem f4_den (code : List Int) : F4.den (code, ()) = some ((true, ()), ()) := by
  rw [show F4.den = F4.d0 from rfl]
  unfold F4.d0
  simp only
  rw [show F5.den (code, ()) = some ((decide ((code.length : Int) > 1048576), ()), ()) from rfl]
  simp only [Option.bind_some]
  by_cases hb : (code.length : Int) > 1048576
  · rw [decide_eq_true hb]; rfl
  rw [decide_eq_false hb]
  simp only [Bool.false_eq_true, if_false]
  obtain ⟨⟨⟨l, ⟨a, _⟩, ⟨b, _⟩, _⟩, _⟩, e6, hl⟩ := f13_ends code (by omega)
  rw [e6]
  simp only at hl
  simp only [Option.bind_some]
  rw [f14_den]
  simp only [Option.bind_some]
  rw [f15_den _ _ _ (by omega)]
  simp only [Option.bind_some]
  rw [if_neg (by simp)]
  by_cases hM : ¬ (cutF l a b).2 = true
  · rw [cutF_f hM]; rfl
  obtain ⟨eM, tl, tc, hs⟩ := cutF_t (Decidable.not_not.1 hM)
  rw [eM]
  simp only [Bool.not_true, Bool.false_eq_true, if_false]
  obtain ⟨⟨⟨ps, _⟩, _⟩, e9, hp⟩ := f9_ends code (by omega) 1 (by omega) (by omega)
  rw [e9]
  simp only at hp
  simp only [Option.bind_some]
  have hps : ps.length = 1 := by omega
  have hc : (decide (0 ≤ (0 : Int)) && decide (0 < ((ps.length : Nat) : Int))) = true := by rw [hps]; rfl
  rw [if_pos hc, f10_den]
  simp only [Option.bind_some]
  rw [if_pos hc, f10_den]
  simp only [Option.bind_some]
  rw [f12_den]
  simp only [Option.bind_some]
  rw [f12_den]
  simp only [Option.bind_some]
  generalize (gt (.pair (.int .i64) (.int .i64)) ps (Int.toNat 0)) = p
  have key := rest_cuts (a := a) (b := b) ps hps tl tc hs p
  have spd : ∀ r : F4.Y, r = some ((true, ()), ()) → (if (speedF l).2 = true then (if (speedF (part0 l a b (posF l a).1 (posF l b).1)).2 = true then (Option.bind (F17.den (((speedF (part0 l a b (posF l a).1 (posF l b).1)).1, ()), (((speedF l).1, ()), ()))) fun y11 => (if (decide ((y11.1.1 : Int) > 0)) = true then (some ((false, ()), ())) else r)) else r) else r) = some ((true, ()), ()) := fun r hr => by
    subst hr
    by_cases s1 : (speedF l).2 = true
    · rw [if_pos s1]
      by_cases s2 : (speedF (part0 l a b (posF l a).1 (posF l b).1)).2 = true
      · rw [if_pos s2, f17_den]
        simp only [Option.bind_some]
        rw [if_neg (by simpa using speed_sub hs s1 s2)]
      · rw [if_neg s2]
    · rw [if_neg s1]
  by_cases q1 : (posF l p).2 = true
  · rw [if_pos q1]
    by_cases q2 : (posF (part0 l a b (posF l a).1 (posF l b).1) p).2 = true
    · rw [if_pos q2, pos_sub hs q1 q2, f16_same _ posF_len]
      simp only [Option.bind_some]
      rw [if_pos (show (!true) = false from rfl)]
      exact spd _ key
    · rw [if_neg q2]
      exact spd _ key
  · rw [if_neg q1]
    exact spd _ key
end Pl
end Go.Proofs.Ytjhcdndmbilogaa
