/-
  What a track is.
  CONDITIONS: those that each theorem names.
-/
import Derived.Test.YtjhcdndmbilogaaM2
namespace Go.Proofs.Ytjhcdndmbilogaa
set_option linter.unusedVariables false
set_option linter.unusedSimpArgs false
namespace Pl
open Go Eng RK

abbrev TS : Ty := .pair (.pair (.int .i64) (.int .i64)) (.pair (.pair (.int .i64) (.int .i64)) (.pair (.int .i64) (.int .i64)))
def g (l : List Stp) (i : Nat) : Stp := gt TS l i
def StOk (s : Stp) : Prop := RK.Ok s.1 ∧ RK.Ok s.2.1 ∧ RK.Ok s.2.2
instance (s : Stp) : Decidable (StOk s) := by unfold StOk; infer_instance
/-- The stops up to a place are in order. -/
def Upto (l : List Stp) (n : Nat) : Prop := ∀ i, i < n → StOk (g l i) ∧ (0 < i → val (g l (i - 1)).1 < val (g l i).1)
def Trk (l : List Stp) : Prop := 1 ≤ l.length ∧ l.length ≤ 6 ∧ Upto l l.length
open Classical in
noncomputable def isTrk (l : List Stp) : Bool := decide (Trk l)
theorem isTrk_t {l : List Stp} : isTrk l = true ↔ Trk l := by unfold isTrk; simp
theorem isTrk_f {l : List Stp} (h : ¬ Trk l) : isTrk l = false := by unfold isTrk; simp [h]
theorem Upto.succ {l : List Stp} {n : Nat} (h : Upto l n) (h1 : StOk (g l n)) (h2 : 0 < n → val (g l (n - 1)).1 < val (g l n).1) : Upto l (n + 1) := fun i hi => by
  by_cases e : i = n
  · subst e; exact ⟨h1, h2⟩
  · exact h i (by omega)

theorem cmp_lt {a b : Ra} (ha : RK.Ok a) (hb : RK.Ok b) : (cmp a b != -1) = !decide (val a < val b) := by
  unfold cmp
  rw [if_pos ⟨ha, hb⟩]
  by_cases h : val a < val b
  · simp [h]
  · by_cases h2 : val b < val a <;> simp [h, h2]

theorem f24_den (l : List Stp) : F24.den (l, ()) = some ((isTrk l, ()), ()) := by
  rw [show F24.den = F24.d0 (F24.L0 big) from rfl]
  unfold F24.d0
  simp only
  by_cases h1 : l.length < 1
  · rw [if_neg (by simp; omega), isTrk_f (fun h => by have := h.1; omega)]
  · rw [if_pos (by simp; omega)]
    by_cases h2 : 6 < l.length
    · rw [if_pos (by simp; omega), isTrk_f (fun h => by have := h.2.1; omega)]
    · rw [if_neg (by simp; omega)]
      refine itr_inv (B := F24.B0) (fun x : F24.X0 => l.length - x.2.2.2.1.toNat) (fun x => x.1 = l ∧ x.2.1 = l ∧ x.2.2.1 = l.length ∧ ∃ n : Nat, x.2.2.2.1 = n ∧ n ≤ l.length ∧ Upto l n) (fun x o => o = some ((isTrk l, ()), ())) ?_ big _ ⟨rfl, rfl, rfl, 0, rfl, by omega, fun i hi => absurd hi (by omega)⟩ (by simp only; unfold big; omega)
      rintro ⟨l', l'', m, i, u⟩ rec ⟨e1, e2, e3, n, e4, hn, hup⟩ ih
      simp only at e1 e2 e3 e4 hn hup ih h1 h2
      subst e1; subst e2; subst e3; subst e4
      unfold F24.B0 F24.b0
      simp only
      by_cases h3 : n < l''.length
      · rw [if_pos (by simp; omega), if_pos (by simp; omega)]
        have hbad : ¬ StOk (g l'' n) → isTrk l'' = false := fun hb => isTrk_f fun h => hb (h.2.2 n h3).1
        by_cases o1 : RK.Ok (g l'' n).1
        · by_cases o2 : RK.Ok (g l'' n).2.1
          · by_cases o3 : RK.Ok (g l'' n).2.2
            · have hg : StOk (g l'' n) := ⟨o1, o2, o3⟩
              unfold g at o1 o2 o3
              simp only [Int.toNat_natCast]
              rw [f27_den, decide_eq_true o1]
              simp only [Option.bind_some]
              rw [f27_den, decide_eq_true o2]
              simp only [Option.bind_some]
              rw [f27_den, decide_eq_true o3]
              simp only [Option.bind_some, Bool.not_true, Bool.false_eq_true, if_true, if_false]
              have hs : IntKind.wrap .i64 ((n : Int) + 1) = ((n + 1 : Nat) : Int) := by rw [wr (by omega) (by omega)]; omega
              by_cases h4 : 0 < n
              · have hp : IntKind.wrap .i64 ((n : Int) - 1) = ((n - 1 : Nat) : Int) := by rw [wr (by omega) (by omega)]; omega
                rw [if_pos (by simp; omega), hp, if_pos (by simp; omega)]
                simp only [Int.toNat_natCast]
                rw [f17_den]
                simp only [Option.bind_some]
                have hprev := (hup (n - 1) (by omega)).1.1
                have hc := cmp_lt hprev hg.1
                unfold g at hc
                rw [hc]
                by_cases h5 : val (g l'' (n - 1)).1 < val (g l'' n).1
                · have h5' := h5
                  unfold g at h5'
                  rw [decide_eq_true h5', hs]
                  exact ih _ ⟨rfl, rfl, rfl, n + 1, rfl, by first | omega | (simp only; omega), hup.succ hg fun _ => h5⟩ (by first | omega | (simp only; omega))
                · have h5' := h5
                  unfold g at h5'
                  rw [decide_eq_false h5', isTrk_f (fun h => h5 ((h.2.2 n h3).2 h4))]; rfl
              · rw [if_neg (by simp; omega), hs]
                exact ih _ ⟨rfl, rfl, rfl, n + 1, rfl, by first | omega | (simp only; omega), hup.succ hg fun h => absurd h h4⟩ (by first | omega | (simp only; omega))
            · rw [hbad (fun h => o3 h.2.2)]
              unfold g at o1 o2 o3
              simp only [Int.toNat_natCast]
              rw [f27_den, decide_eq_true o1]
              simp only [Option.bind_some]
              rw [f27_den, decide_eq_true o2]
              simp only [Option.bind_some]
              rw [f27_den, decide_eq_false o3]; rfl
          · rw [hbad (fun h => o2 h.2.1)]
            unfold g at o1 o2
            simp only [Int.toNat_natCast]
            rw [f27_den, decide_eq_true o1]
            simp only [Option.bind_some]
            rw [f27_den, decide_eq_false o2]; rfl
        · rw [hbad (fun h => o1 h.1)]
          unfold g at o1
          simp only [Int.toNat_natCast]
          rw [f27_den, decide_eq_false o1]; rfl
      · rw [if_neg (by simp; omega)]
        have : n = l''.length := by omega
        subst this
        rw [isTrk_t.2 ⟨by omega, by omega, hup⟩]
theorem f26_den (l : List Stp) (hlen : l.length ≤ 1000000) : F26.den (l, ()) = some ((isTrk l, ()), ()) := by
  rw [show F26.den = F26.d0 (F26.L0 big) from rfl]
  unfold F26.d0
  simp only
  refine itr_inv (B := F26.B0) (fun x : F26.X0 => l.length - x.2.1.toNat) (fun x => x.1 = l ∧ ∃ n : Nat, x.2.1 = n ∧ n ≤ l.length ∧ Upto l n) (fun x o => o = some ((isTrk l, ()), ())) ?_ big _ ⟨rfl, 0, rfl, by omega, fun i hi => absurd hi (by omega)⟩ (by simp only; unfold big; omega)
  rintro ⟨l'', i, u⟩ rec ⟨rfl, n, rfl, hn, hup⟩ ih
  simp only at hn hup ih hlen
  unfold F26.B0 F26.b0
  simp only
  by_cases h3 : n < l''.length
  · have hc : (decide (0 ≤ (n : Int)) && decide ((n : Int) < (l''.length : Int))) = true := by simp; omega
    rw [if_pos (by simp; omega), if_pos hc]
    have hbad : ¬ StOk (g l'' n) → isTrk l'' = false := fun hb => isTrk_f fun h => hb (h.2.2 n h3).1
    by_cases o1 : RK.Ok (g l'' n).1
    · by_cases o2 : RK.Ok (g l'' n).2.1
      · by_cases o3 : RK.Ok (g l'' n).2.2
        · have hg : StOk (g l'' n) := ⟨o1, o2, o3⟩
          unfold g at o1 o2 o3
          simp only [Int.toNat_natCast]
          rw [f31_den, decide_eq_true o1]
          simp only [Option.bind_some]
          rw [if_pos hc, f31_den, decide_eq_true o2]
          simp only [Option.bind_some]
          rw [if_pos hc, f31_den, decide_eq_true o3]
          simp only [Option.bind_some, Bool.not_true, Bool.false_eq_true, if_true, if_false]
          have hs : IntKind.wrap .i64 ((n : Int) + 1) = ((n + 1 : Nat) : Int) := by rw [wr (by omega) (by omega)]; omega
          by_cases h4 : 0 < n
          · have hp : IntKind.wrap .i64 ((n : Int) - 1) = ((n - 1 : Nat) : Int) := by rw [wr (by omega) (by omega)]; omega
            rw [if_pos (by simp; omega), hp, if_pos (by simp; omega), if_pos hc]
            simp only [Int.toNat_natCast]
            have hprev := (hup (n - 1) (by omega)).1.1
            unfold g at hprev
            rw [f36_den _ _ hprev o1]
            simp only [Option.bind_some]
            by_cases h5 : val (g l'' (n - 1)).1 < val (g l'' n).1
            · have h5' := h5
              unfold g at h5'
              rw [decide_eq_true h5', hs]
              exact ih _ ⟨rfl, n + 1, rfl, by first | omega | (simp only; omega), hup.succ hg fun _ => h5⟩ (by first | omega | (simp only; omega))
            · have h5' := h5
              unfold g at h5'
              rw [decide_eq_false h5', isTrk_f (fun h => h5 ((h.2.2 n h3).2 h4))]; rfl
          · rw [if_neg (by simp; omega), hs]
            exact ih _ ⟨rfl, n + 1, rfl, by first | omega | (simp only; omega), hup.succ hg fun h => absurd h h4⟩ (by first | omega | (simp only; omega))
        · rw [hbad (fun h => o3 h.2.2)]
          unfold g at o1 o2 o3
          simp only [Int.toNat_natCast]
          rw [f31_den, decide_eq_true o1]
          simp only [Option.bind_some]
          rw [if_pos hc, f31_den, decide_eq_true o2]
          simp only [Option.bind_some]
          rw [if_pos hc, f31_den, decide_eq_false o3]; rfl
      · rw [hbad (fun h => o2 h.2.1)]
        unfold g at o1 o2
        simp only [Int.toNat_natCast]
        rw [f31_den, decide_eq_true o1]
        simp only [Option.bind_some]
        rw [if_pos hc, f31_den, decide_eq_false o2]; rfl
    · rw [hbad (fun h => o1 h.1)]
      unfold g at o1
      simp only [Int.toNat_natCast]
      rw [f31_den, decide_eq_false o1]; rfl
  · rw [if_neg (by simp; omega), f44_den]
    have : n = l''.length := by omega
    subst this
    simp only [Option.bind_some]
    congr 3
    rw [Bool.eq_iff_iff, decide_eq_true_eq, isTrk_t]
    constructor
    · intro h; exact ⟨by omega, by omega, hup⟩
    · intro h; exact ⟨by have := h.1; omega, by have := h.2.1; omega⟩
end Pl
end Go.Proofs.Ytjhcdndmbilogaa
