/-
  The positions of the reference.
  CONDITIONS: those that each theorem names.
-/
import Derived.Test.YtjhcdndmbilogaaM5
namespace Go.Proofs.Ytjhcdndmbilogaa
set_option linter.unusedVariables false
set_option linter.unusedSimpArgs false
namespace Pl
open Go Eng RK

theorem f57_den (t a u b : Ra) : F57.den ((t, ()), ((a, ()), ((u, ()), ((b, ()), ())))) = some (((lineB a t b u, ()), ()), ()) := by
  rw [show F57.den = F57.d0 from rfl]
  unfold F57.d0
  simp only
  rw [f61_den]; simp only [Option.bind_some]
  rw [f11_den, sub_eq]; simp only [Option.bind_some]
  rw [f61_den]; simp only [Option.bind_some]
  rw [f11_den, sub_eq]; simp only [Option.bind_some]
  rw [f60_den]; simp only [Option.bind_some]
  rw [f58_den]; simp only [Option.bind_some]
  rw [f61_den]; simp only [Option.bind_some]
  rw [f11_den, sub_eq]; rfl
theorem f51_den (a b : Stp) : F51.den ((a, ()), ((b, ()), ())) = some ((((legF a b).2.2.1, ()), (((legF a b).2.2.2, ()), (decide (LgOk (legF a b)), ()))), ()) := by
  rw [show F51.den = F51.d0 from rfl]
  unfold F51.d0
  simp only
  rw [f57_den]; simp only [Option.bind_some]
  rw [f57_den]; simp only [Option.bind_some]
  rw [f31_den]; simp only [Option.bind_some]
  have e1 : (legF a b).2.2.1 = lineB a.2.1 a.1 b.2.1 b.1 := rfl
  have e2 : (legF a b).2.2.2 = lineB a.2.2 a.1 b.2.2 b.1 := rfl
  rw [← e1, ← e2]
  generalize legF a b = x
  by_cases h1 : RK.Ok x.2.2.1.1
  · rw [decide_eq_true h1, if_pos rfl, f31_den]; simp only [Option.bind_some]
    by_cases h2 : RK.Ok x.2.2.1.2
    · rw [decide_eq_true h2, if_pos rfl, f31_den]; simp only [Option.bind_some]
      by_cases h3 : RK.Ok x.2.2.2.1
      · rw [decide_eq_true h3, if_pos rfl, f31_den]; simp only [Option.bind_some]
        have : decide (RK.Ok x.2.2.2.2) = decide (LgOk x) := by
          rw [Bool.eq_iff_iff]; simp [LgOk, LnOk, h1, h2, h3]
        rw [this]
      · rw [decide_eq_false h3, decide_eq_false (fun h : LgOk x => h3 h.2.1)]; rfl
    · rw [decide_eq_false h2, decide_eq_false (fun h : LgOk x => h2 h.1.2)]; rfl
  · rw [decide_eq_false h1, decide_eq_false (fun h : LgOk x => h1 h.1.1)]; rfl
theorem f52_den (x : Ln) (t : Ra) : F52.den ((x, ()), ((t, ()), ())) = some (((onL x t, ()), ()), ()) := by
  rw [show F52.den = F52.d0 from rfl]
  unfold F52.d0
  simp only
  rw [f58_den]; simp only [Option.bind_some]
  rw [f11_den]; rfl
theorem f53_two (a b : Ra) : F53.den ([a, b], (2, ())) = some ((decide (RK.Ok a ∧ RK.Ok b), ()), ()) := by
  rw [show F53.den = F53.d0 (F53.L0 big) from rfl]
  unfold F53.d0
  simp only
  have step : ∀ (n k : Nat) (r : Ra), gr [a, b] k = r → k < 2 → F53.L0 (n + 1) ([a, b], (2, ((k : Int), ()))) = if RK.Ok r then F53.L0 n ([a, b], (2, (((k + 1 : Nat) : Int), ()))) else some ((false, ()), ()) := by
    intro n k r hr hk
    rw [show F53.L0 (n + 1) = F53.B0 (F53.L0 n) from rfl]
    unfold F53.B0 F53.b0
    simp only
    rw [if_pos (by simp; omega), if_pos (by simp; omega)]
    simp only [Int.toNat_natCast]
    rw [show gt (.pair (.int .i64) (.int .i64)) [a, b] k = r from hr, f31_den]
    simp only [Option.bind_some]
    have hw : IntKind.wrap .i64 ((k : Int) + 1) = ((k + 1 : Nat) : Int) := by rw [wr (by omega) (by omega)]; omega
    rw [hw]
    by_cases h : RK.Ok r
    · rw [decide_eq_true h, if_pos h]; rfl
    · rw [decide_eq_false h, if_neg h]; rfl
  have e0 := step (big - 1) 0 a rfl (by omega)
  have e1 := step (big - 2) 1 b rfl (by omega)
  rw [show big - 1 + 1 = big from rfl] at e0
  rw [show big - 2 + 1 = big - 1 from rfl] at e1
  refine e0.trans ?_
  by_cases ha : RK.Ok a
  · rw [if_pos ha]
    refine e1.trans ?_
    by_cases hb : RK.Ok b
    · rw [if_pos hb, decide_eq_true (show RK.Ok a ∧ RK.Ok b from ⟨ha, hb⟩), show F53.L0 (big - 2) = F53.B0 (F53.L0 (big - 3)) from rfl]
      unfold F53.B0 F53.b0
      simp only
      rw [if_neg (by simp)]
      rfl
    · rw [if_neg hb, decide_eq_false (show ¬ (RK.Ok a ∧ RK.Ok b) from fun h => hb h.2)]
  · rw [if_neg ha, decide_eq_false (show ¬ (RK.Ok a ∧ RK.Ok b) from fun h => ha h.1)]

theorem Trk.mono {l : List Stp} (h : Trk l) : ∀ {n i : Nat}, i < n → n < l.length → val (g l i).1 < val (g l n).1
  | 0, i, hi, _ => absurd hi (by omega)
  | n + 1, i, hi, hn => by
    have h1 := (h.2.2 (n + 1) hn).2 (by omega)
    rw [show n + 1 - 1 = n by omega] at h1
    by_cases e : i = n
    · subst e; exact h1
    · have := Trk.mono h (n := n) (i := i) (by omega) (by omega)
      grind
theorem Trk.ok {l : List Stp} (h : Trk l) {i : Nat} (hi : i < l.length) : StOk (g l i) := (h.2.2 i hi).1
theorem cmp_0 {a b : Ra} (ha : RK.Ok a) (hb : RK.Ok b) : cmp a b = 0 ↔ val a = val b := by
  unfold cmp
  rw [if_pos (show RK.Ok a ∧ RK.Ok b from ⟨ha, hb⟩)]
  split
  · rename_i h; constructor
    · intro h'; cases h'
    · intro h'; grind
  · split
    · rename_i h; constructor
      · intro h'; cases h'
      · intro h'; grind
    · constructor
      · intro _; grind
      · intro _; rfl
theorem cmp_p {a b : Ra} (ha : RK.Ok a) (hb : RK.Ok b) : cmp a b > 0 ↔ val b < val a := by
  unfold cmp
  rw [if_pos (show RK.Ok a ∧ RK.Ok b from ⟨ha, hb⟩)]
  split
  · rename_i h; constructor
    · intro h'; simp at h'
    · intro h'; grind
  · split
    · rename_i h; constructor
      · intro _; exact h
      · intro _; decide
    · rename_i h; constructor
      · intro h'; simp at h'
      · intro h'; exact absurd h' h
theorem cmp_n {a b : Ra} (ha : RK.Ok a) (hb : RK.Ok b) : cmp a b < 0 ↔ val a < val b := by
  unfold cmp
  rw [if_pos (show RK.Ok a ∧ RK.Ok b from ⟨ha, hb⟩)]
  split
  · rename_i h; constructor
    · intro _; exact h
    · intro _; decide
  · split
    · rename_i h h2; constructor
      · intro h'; simp at h'
      · intro h'; exact absurd h' h
    · rename_i h h2; constructor
      · intro h'; simp at h'
      · intro h'; exact absurd h' h
theorem pair_beq (a b : Ra) : (((a.1 : Int) == b.1) && (((a.2 : Int) == b.2) && true)) = decide (a = b) := by
  rw [Bool.eq_iff_iff]
  simp [Prod.ext_iff]
theorem f35_den (l : List Stp) (t : Ra) (hlen : l.length ≤ 1000) : F35.den (l, ((t, ()), ())) = some (((posF l t).1, ((posF l t).2, ())), ()) := by
  rw [show F35.den = F35.d0 (F35.L0 big) from rfl]
  unfold F35.d0
  simp only
  rw [f26_den _ (by omega)]; simp only [Option.bind_some]
  by_cases hl : isTrk l = true
  · rw [hl, f31_den]; simp only [Option.bind_some]
    have hT := isTrk_t.1 hl
    by_cases ht : RK.Ok t
    · rw [decide_eq_true ht]
      simp only [Bool.not_true, if_true, Bool.false_eq_true, if_false]
      have e : posF l t = posG l t l.length 0 := by unfold posF; rw [if_pos ⟨hl, ht⟩]
      rw [e]
      refine itr_inv (B := F35.B0) (fun z : F35.X0 => l.length - z.2.2.1.toNat) (fun z => z.1 = l ∧ z.2.1.1 = t ∧ ∃ n : Nat, z.2.2.1 = n ∧ n ≤ l.length ∧
          ((posG l t l.length 0 = posG l t (l.length - n) n ∧ ∀ j, j < n → val (g l j).1 < val t) ∨ (posG l t l.length 0 = ([], false) ∧ 0 < n ∧ val t < val (g l 0).1)))
        (fun z o => o = some (((posG l t l.length 0).1, ((posG l t l.length 0).2, ())), ())) ?_ big _ ⟨rfl, rfl, 0, rfl, by omega, .inl ⟨rfl, fun j h => absurd h (by omega)⟩⟩ (by simp only; unfold big; omega)
      rintro ⟨l', ⟨t', u⟩, i, u2⟩ rec ⟨e1, e2, n, e5, hn, e6⟩ ih
      simp only at e1 e2 e5 ih
      subst e1; subst e2; subst e5
      unfold F35.B0 F35.b0
      simp only
      have h6 := hT.2.1
      by_cases h3 : n < l'.length
      · have hc : (decide (0 ≤ (n : Int)) && decide ((n : Int) < (l'.length : Int))) = true := by simp; omega
        rw [if_pos (by simp; omega), if_pos hc]
        simp only [Int.toNat_natCast]
        rw [show (gt (.pair (.pair (.int .i64) (.int .i64)) (.pair (.pair (.int .i64) (.int .i64)) (.pair (.int .i64) (.int .i64)))) l' n) = g l' n from rfl, pair_beq]
        have ok := (hT.ok h3).1
        have hs : IntKind.wrap .i64 ((n : Int) + 1) = ((n + 1 : Nat) : Int) := by rw [wr (by omega) (by omega)]; omega
        obtain ⟨k, hk⟩ : ∃ k, l'.length - n = k + 1 := ⟨l'.length - n - 1, by omega⟩
        have hk' : l'.length - (n + 1) = k := by omega
        rcases e6 with ⟨e6, hall⟩ | ⟨e6, hn0, hlt⟩
        · rw [hk, posG_succ] at e6
          by_cases c0 : (g l' n).1 = t'
          · rw [if_pos ((cmp_0 ht ok).2 (by rw [c0]))] at e6
            rw [if_pos (by simpa using c0), if_pos hc, if_pos hc, e6]
          · have c0' : ¬ cmp t' (g l' n).1 = 0 := fun h => c0 (ok.inj ht ((cmp_0 ht ok).1 h).symm)
            rw [if_neg c0'] at e6
            rw [if_neg (by simpa using c0)]
            by_cases c1 : cmp t' (g l' n).1 > 0
            · rw [if_pos c1] at e6
              have hv := (cmp_p ht ok).1 c1
              have hnext : rec (l', ((t', ()), (((n + 1 : Nat) : Int), ()))) = some (((posG l' t' l'.length 0).1, ((posG l' t' l'.length 0).2, ())), ()) :=
                ih _ ⟨rfl, rfl, n + 1, rfl, by omega, .inl ⟨by rw [hk']; exact e6, fun j hj => by
                  by_cases e : j = n
                  · subst e; exact hv
                  · exact hall j (by omega)⟩⟩ (by first | omega | (simp only; omega))
              rw [hs]
              by_cases c2 : 0 < n
              · have hp : IntKind.wrap .i64 ((n : Int) - 1) = ((n - 1 : Nat) : Int) := by rw [wr (by omega) (by omega)]; omega
                rw [if_pos (by simp; omega), hp, if_pos (by simp; omega)]
                simp only [Int.toNat_natCast]
                rw [show (gt (.pair (.pair (.int .i64) (.int .i64)) (.pair (.pair (.int .i64) (.int .i64)) (.pair (.int .i64) (.int .i64)))) l' (n - 1)) = g l' (n - 1) from rfl, f36_den _ _ (hT.ok (by omega)).1 ht]
                simp only [Option.bind_some]
                rw [if_pos (by simpa using hall (n - 1) (by omega)), if_pos hc, f36_den _ _ ht ok]
                simp only [Option.bind_some]
                rw [if_neg (by simp only [decide_eq_true_eq]; grind)]
                exact hnext
              · rw [if_neg (by simp; omega)]
                exact hnext
            · rw [if_neg c1] at e6
              have hv : val t' < val (g l' n).1 := by
                have h1 : ¬ val (g l' n).1 < val t' := fun h => c1 ((cmp_p ht ok).2 h)
                have h2 : ¬ val t' = val (g l' n).1 := fun h => c0' ((cmp_0 ht ok).2 h)
                grind
              by_cases c2 : n = 0
              · subst c2
                rw [if_pos rfl] at e6
                rw [if_neg (by simp), hs]
                exact ih _ ⟨rfl, rfl, 1, rfl, by omega, .inr ⟨e6, by omega, hv⟩⟩ (by first | omega | (simp only; omega))
              · rw [if_neg c2] at e6
                have hp : IntKind.wrap .i64 ((n : Int) - 1) = ((n - 1 : Nat) : Int) := by rw [wr (by omega) (by omega)]; omega
                have hc' : (decide (0 ≤ ((n - 1 : Nat) : Int)) && decide (((n - 1 : Nat) : Int) < (l'.length : Int))) = true := by simp; omega
                rw [if_pos (by simp; omega), hp, if_pos hc']
                simp only [Int.toNat_natCast]
                rw [show (gt (.pair (.pair (.int .i64) (.int .i64)) (.pair (.pair (.int .i64) (.int .i64)) (.pair (.int .i64) (.int .i64)))) l' (n - 1)) = g l' (n - 1) from rfl, f36_den _ _ (hT.ok (by omega)).1 ht]
                simp only [Option.bind_some]
                rw [if_pos (by simpa using hall (n - 1) (by omega)), if_pos hc, f36_den _ _ ht ok]
                simp only [Option.bind_some]
                rw [if_pos (by simpa using hv), if_pos hc', if_pos hc, f51_den]
                simp only [Option.bind_some]
                rw [e6]
                unfold legPos
                generalize legF (g l' (n - 1)) (g l' n) = x
                rw [f52_den]; simp only [Option.bind_some]
                rw [f52_den]; simp only [Option.bind_some]
                by_cases hx : LgOk x
                · rw [decide_eq_true hx, if_pos (show (!true) = false from rfl), f53_two]; simp only [Option.bind_some]
                  by_cases ho : RK.Ok (onL x.2.2.1 t') ∧ RK.Ok (onL x.2.2.2 t')
                  · rw [if_pos (show LgOk x ∧ RK.Ok (onL x.2.2.1 t') ∧ RK.Ok (onL x.2.2.2 t') from ⟨hx, ho⟩), decide_eq_true ho]; rfl
                  · rw [if_neg (show ¬ (LgOk x ∧ RK.Ok (onL x.2.2.1 t') ∧ RK.Ok (onL x.2.2.2 t')) from fun h => ho h.2), decide_eq_false ho]; rfl
                · rw [decide_eq_false hx, if_neg (show ¬ (LgOk x ∧ RK.Ok (onL x.2.2.1 t') ∧ RK.Ok (onL x.2.2.2 t')) from fun h => hx h.1)]; rfl
        · have hge : val (g l' 0).1 < val (g l' n).1 := hT.mono hn0 h3
          have hge1 : ¬ val (g l' (n - 1)).1 < val t' := by
            by_cases e : n - 1 = 0
            · rw [e]; grind
            · have := hT.mono (i := 0) (n := n - 1) (by omega) (by omega); grind
          have hp : IntKind.wrap .i64 ((n : Int) - 1) = ((n - 1 : Nat) : Int) := by rw [wr (by omega) (by omega)]; omega
          rw [if_neg (by simp only [decide_eq_true_eq]; intro h; rw [h] at hge; grind), if_pos (by simp; omega), hp, if_pos (by simp; omega)]
          simp only [Int.toNat_natCast]
          rw [show (gt (.pair (.pair (.int .i64) (.int .i64)) (.pair (.pair (.int .i64) (.int .i64)) (.pair (.int .i64) (.int .i64)))) l' (n - 1)) = g l' (n - 1) from rfl, f36_den _ _ (hT.ok (by omega)).1 ht]
          simp only [Option.bind_some]
          rw [if_neg (by simpa using hge1), hs]
          exact ih _ ⟨rfl, rfl, n + 1, rfl, by omega, .inr ⟨e6, by omega, hlt⟩⟩ (by first | omega | (simp only; omega))
      · rw [if_neg (by simp; omega)]
        rcases e6 with ⟨e6, _⟩ | ⟨e6, _⟩
        · rw [e6, show l'.length - n = 0 by omega]; rfl
        · rw [e6]
    · rw [decide_eq_false ht]
      unfold posF
      rw [if_neg (show ¬ (isTrk l = true ∧ RK.Ok t) from fun h => ht h.2)]; rfl
  · unfold posF
    rw [if_neg (show ¬ (isTrk l = true ∧ RK.Ok t) from fun h => hl h.1)]
    rw [Bool.not_eq_true] at hl
    rw [hl]; rfl
end Pl
end Go.Proofs.Ytjhcdndmbilogaa
