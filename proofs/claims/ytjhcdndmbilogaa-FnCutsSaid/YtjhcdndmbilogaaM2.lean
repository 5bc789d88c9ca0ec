/-
  What the functions that draw do.
  CONDITIONS: those that each theorem names.
-/
import Derived.Test.YtjhcdndmbilogaaM1
namespace Go.Proofs.Ytjhcdndmbilogaa
set_option linter.unusedVariables false
set_option linter.unusedSimpArgs false
namespace Pl
open Go Eng RK

/-- It ends, in such a result. -/
def Ends {R : Type} (o : Option R) (Q : R → Prop) : Prop := ∃ y, o = some y ∧ Q y
theorem Ends.bind {A R : Type} {o : Option A} {P : A → Prop} {k : A → Option R} {Q : R → Prop} (h : Ends o P) (hk : ∀ y, P y → Ends (k y) Q) : Ends (o.bind k) Q := by
  obtain ⟨y, rfl, hy⟩ := h
  exact hk y hy
theorem Ends.ret {R : Type} {y : R} {Q : R → Prop} (h : Q y) : Ends (some y) Q := ⟨y, rfl, h⟩
theorem Ends.mono {R : Type} {o : Option R} {P Q : R → Prop} (h : Ends o P) (hk : ∀ y, P y → Q y) : Ends o Q := by
  obtain ⟨y, e, hy⟩ := h
  exact ⟨y, e, hk y hy⟩
theorem Ends.of_eq {R : Type} {o : Option R} {y : R} {Q : R → Prop} (h : o = some y) (hq : Q y) : Ends o Q := ⟨y, h, hq⟩

abbrev Cur := List Int × (Int × Int)
def Cu (c : Cur) : Prop := 0 ≤ c.2.1 ∧ c.1.length ≤ 1048576

theorem and255 (a : BitVec (IntKind.bits .i64)) : 0 ≤ IntKind.wrap .i64 ((a &&& BitVec.ofInt (IntKind.bits .i64) 255).toNat : Int) ∧ IntKind.wrap .i64 ((a &&& BitVec.ofInt (IntKind.bits .i64) 255).toNat : Int) ≤ 255 := by
  have h : (a &&& BitVec.ofInt (IntKind.bits .i64) 255).toNat ≤ 255 := by
    rw [BitVec.toNat_and]
    exact Nat.and_le_right
  rw [wr (by omega) (by omega)]
  omega

theorem f42_ends {c : Cur} (h : Cu c) : Ends (F42.den ((c, ()), ())) fun y => 0 ≤ y.1.1 ∧ y.1.1 ≤ 255 ∧ Cu y.2.1.1 := by
  rw [show F42.den = F42.d0 from rfl]
  unfold F42.d0
  simp only
  obtain ⟨h1, h2⟩ := h
  rw [if_pos (by decide), if_pos (by decide)]
  split
  · rename_i h3
    simp only [decide_eq_true_eq] at h3
    rw [if_pos (by simp [h1, h3])]
    exact Ends.ret ⟨(and255 _).1, (and255 _).2, by simp only; rw [wr (by omega) (by omega)]; omega, h2⟩
  · exact Ends.ret ⟨(and255 _).1, (and255 _).2, h1, h2⟩
theorem f23_ends {c : Cur} (h : Cu c) (n : Int) : Ends (F23.den ((c, ()), (n, ()))) fun y => 0 ≤ y.1.1 ∧ (0 < n → y.1.1 < n) ∧ Cu y.2.1.1 := by
  rw [show F23.den = F23.d0 from rfl]
  unfold F23.d0
  simp only
  split
  · rename_i h3
    simp only [decide_eq_true_eq] at h3
    exact Ends.ret ⟨by simp, fun _ => by simp only; omega, h⟩
  · rename_i h3
    simp only [decide_eq_true_eq] at h3
    have hn : (n != 0) = true := by simp only [bne_iff_ne, ne_eq]; omega
    split
    · refine (f42_ends h).bind fun y ⟨h4, h5, h6⟩ => ?_
      exact Ends.ret ⟨Int.tmod_nonneg _ h4, fun _ => Int.tmod_lt_of_pos _ (by omega), h6⟩
    · refine (f42_ends h).bind fun y2 ⟨a1, a2, h6⟩ => (f42_ends h6).bind fun y3 ⟨b1, b2, h6⟩ => (f42_ends h6).bind fun y4 ⟨c1, c2, h6⟩ => (f42_ends h6).bind fun y5 ⟨d1, d2, h6⟩ => ?_
      refine Ends.ret ⟨Int.tmod_nonneg _ ?_, fun _ => Int.tmod_lt_of_pos _ (by omega), h6⟩
      rw [wr (n := y2.1.1 * 16777216) (by omega) (by omega), wr (n := y3.1.1 * 65536) (by omega) (by omega), wr (n := y4.1.1 * 256) (by omega) (by omega), wr (n := y2.1.1 * 16777216 + y3.1.1 * 65536) (by omega) (by omega), wr (n := _ + y4.1.1 * 256) (by omega) (by omega), wr (by omega) (by omega)]
      omega
theorem f38_ends {c : Cur} (h : Cu c) (n : Int) : Ends (F38.den ((c, ()), (n, ()))) fun y => Cu y.2.1.1 := by
  rw [show F38.den = F38.d0 from rfl]
  unfold F38.d0
  exact (f23_ends h n).bind fun y ⟨_, _, h6⟩ => Ends.ret h6
theorem f40_ends {c : Cur} (h : Cu c) (l : List Int) (hl : 0 < l.length) : Ends (F40.den ((c, ()), (l, ()))) fun y => Cu y.2.1.1 := by
  rw [show F40.den = F40.d0 from rfl]
  unfold F40.d0
  refine (f23_ends h _).bind fun y ⟨h1, h2, h6⟩ => ?_
  simp only at h1 h2 h6 ⊢
  rw [if_pos (by simp [h1]; exact h2 (by omega))]
  exact Ends.ret h6
theorem f39_ends {c : Cur} (h : Cu c) : Ends (F39.den ((c, ()), ())) fun y => Cu y.2.1.1 := by
  rw [show F39.den = F39.d0 from rfl]
  unfold F39.d0
  exact (f40_ends h _ (by simp)).bind fun y h6 => Ends.ret h6
/-- A quotient of two numbers. -/
def mkr (n d : Int) : Ra := if (-400000000 ≤ n ∧ n ≤ 400000000) ∧ (-400000000 ≤ d ∧ d ≤ 400000000) then mk n d else (0, 0)
theorem f22_den (n d : Int) : F22.den (n, (d, ())) = some (((mkr n d, ()), ()), ()) := by
  rw [show F22.den = F22.d0 from rfl]
  unfold F22.d0 mkr
  rw [f41_den]
  simp only [Option.bind_some]
  by_cases h1 : (-400000000 : Int) ≤ n ∧ n ≤ 400000000
  · rw [decide_eq_true h1, f41_den]
    simp only [Option.bind_some]
    by_cases h2 : (-400000000 : Int) ≤ d ∧ d ≤ 400000000
    · rw [decide_eq_true h2, f32_den _ _ (by unfold Sm; omega) (by unfold Sm; omega), if_pos (show (-400000000 ≤ n ∧ n ≤ 400000000) ∧ (-400000000 ≤ d ∧ d ≤ 400000000) from ⟨h1, h2⟩)]; rfl
    · rw [decide_eq_false h2, if_neg (show ¬((-400000000 ≤ n ∧ n ≤ 400000000) ∧ (-400000000 ≤ d ∧ d ≤ 400000000)) from fun h => h2 h.2)]; rfl
  · rw [decide_eq_false h1, if_neg (show ¬((-400000000 ≤ n ∧ n ≤ 400000000) ∧ (-400000000 ≤ d ∧ d ≤ 400000000)) from fun h => h1 h.1)]; rfl
theorem f21_ends {c : Cur} (h : Cu c) : Ends (F21.den ((c, ()), ())) fun y => Cu y.2.1.1 := by
  rw [show F21.den = F21.d0 from rfl]
  unfold F21.d0
  refine (f23_ends h _).bind fun y1 ⟨_, _, h1⟩ => ?_
  split
  · exact Ends.ret h1
  · split
    · exact (f39_ends h1).bind fun y2 h2 => (f40_ends h2 _ (by simp)).bind fun y3 h3 => Ends.ret h3
    · split
      · refine (f23_ends h1 _).bind fun y4 ⟨_, _, h4⟩ => (f23_ends h4 _).bind fun y5 ⟨_, _, h5⟩ => ?_
        rw [f22_den]
        exact Ends.ret h5
      · refine (f23_ends h1 _).bind fun y4 ⟨_, _, h4⟩ => (f23_ends h4 _).bind fun y5 ⟨_, _, h5⟩ => ?_
        rw [f22_den]
        exact Ends.ret h5
theorem f19_ends (code : List Int) (h : code.length ≤ 1048576) : Ends (F19.den (code, ())) fun y => Cu y.1.1.1 := by
  rw [show F19.den = F19.d0 (F19.L0 big) from rfl]
  unfold F19.d0
  simp only
  refine itr_inv (B := F19.B0) (fun x : F19.X0 => code.length - x.2.2.1.toNat) (fun x => x.1 = code ∧ 0 ≤ x.2.2.1) (fun x o => Ends o fun y => Cu y.1.1.1) ?_ big _ ⟨rfl, by simp⟩ (by simp only; unfold big; omega)
  rintro ⟨b, hh, i, u⟩ rec ⟨rfl, hi⟩ ih
  simp only at hi ih h
  unfold F19.B0 F19.b0
  simp only
  split
  · rename_i h1
    simp only [decide_eq_true_eq] at h1
    split
    · rw [if_pos (by simp [hi, h1])]
      refine ih _ ⟨rfl, ?_⟩ ?_
      · simp only; rw [wr (by omega) (by omega)]; omega
      · simp only; rw [wr (by omega) (by omega)]; omega
    · exact Ends.ret ⟨by simp, h⟩
  · exact Ends.ret ⟨by simp, h⟩
abbrev Stp := Ra × (Ra × Ra)
theorem f20_ends {c : Cur} (h : Cu c) : Ends (F20.den ((c, ()), ())) fun y => Cu y.2.1.1 ∧ y.1.1.length ≤ 4 := by
  rw [show F20.den = F20.d0 (F20.L0 big) from rfl]
  unfold F20.d0
  refine (f23_ends h _).bind fun y1 ⟨_, _, h1⟩ => (f23_ends h1 _).bind fun y2 ⟨g1, g2, h2⟩ => ?_
  have g2 := g2 (by omega)
  refine itr_inv (B := F20.B0) (fun x : F20.X0 => x.2.2.2.1.toNat) (fun x => Cu x.1.1 ∧ 0 ≤ x.2.2.2.1 ∧ 1 ≤ (x.2.1.length : Int) + x.2.2.2.1 ∧ (x.2.1.length : Int) + x.2.2.2.1 ≤ 4) (fun x o => Ends o fun y => Cu y.2.1.1 ∧ y.1.1.length ≤ 4) ?_ big _ ?_ ?_
  · rintro ⟨⟨c, u⟩, l, t, n, v⟩ rec ⟨hc, hn, h1, h2⟩ ih
    simp only at hc hn h1 h2 ih
    unfold F20.B0 F20.b0
    simp only
    split
    · rename_i h3
      simp only [decide_eq_true_eq] at h3
      rw [f22_den]
      refine (f23_ends hc _).bind fun y4 ⟨_, _, h4⟩ => ?_
      rw [f37_den]
      refine (f23_ends h4 _).bind fun y6 ⟨_, _, h6⟩ => ?_
      rw [f37_den]
      simp only [Option.bind_some]
      rw [if_pos (by simp only [decide_eq_true_eq, List.length_singleton]; unfold cap36; omega)]
      refine (f23_ends h6 _).bind fun y8 ⟨_, _, h8⟩ => ?_
      refine ih _ ⟨h8, ?_, ?_, ?_⟩ ?_ <;> simp only [List.length_append, List.length_singleton] <;> rw [wr (n := n - 1) (by omega) (by omega)] <;> omega
    · rename_i h3
      simp only [decide_eq_true_eq] at h3
      refine (f38_ends hc _).bind fun y9 h9 => ?_
      split
      · refine (f21_ends h9).bind fun y10 h10 => ?_
        rw [if_pos (by have : 0 < l.length := by omega
                       simp only [Bool.and_eq_true, decide_eq_true_eq]; omega)]
        exact Ends.ret ⟨h10, by simp only [List.length_set]; omega⟩
      · exact Ends.ret ⟨h9, by simp only; omega⟩
  · refine ⟨h2, ?_, ?_, ?_⟩ <;> simp only [List.length_nil] <;> rw [wr (by omega) (by omega)] <;> omega
  · simp only; rw [wr (by omega) (by omega)]; unfold big; omega
theorem f6_ends (code : List Int) (h : code.length ≤ 1048576) : Ends (F6.den (code, ())) fun y => y.1.1.length ≤ 4 := by
  rw [show F6.den = F6.d0 from rfl]
  unfold F6.d0
  refine (f19_ends code h).bind fun y1 h1 => (f20_ends h1).bind fun y2 ⟨h2, h3⟩ => (f21_ends h2).bind fun y3 h4 => (f21_ends h4).bind fun y4 h5 => (f23_ends h5 _).bind fun y5 _ => ?_
  rw [f22_den]
  exact Ends.ret h3
theorem f9_ends (code : List Int) (h : code.length ≤ 1048576) (dim : Int) (h0 : 0 ≤ dim) (hd : dim ≤ 1000) : Ends (F9.den (code, (dim, ()))) fun y => (y.1.1.length : Int) = dim := by
  rw [show F9.den = F9.d0 (F9.L0 big) from rfl]
  unfold F9.d0
  simp only
  refine itr_inv (B := F9.B0) (fun x : F9.X0 => (dim - x.2.2.2.1).toNat) (fun x => x.1 = code ∧ x.2.1 = dim ∧ 0 ≤ x.2.2.2.1 ∧ x.2.2.2.1 ≤ dim ∧ (x.2.2.1.length : Int) = x.2.2.2.1) (fun x o => Ends o fun y => (y.1.1.length : Int) = dim) ?_ big _ ⟨rfl, rfl, by simp, by simp only; omega, by simp⟩ (by simp only; unfold big; omega)
  rintro ⟨b, d, p, i, u⟩ rec ⟨rfl, rfl, hi, h1, h2⟩ ih
  simp only at hi h1 h2 ih h hd
  unfold F9.B0 F9.b0
  simp only
  split
  · rename_i h3
    simp only [decide_eq_true_eq] at h3
    split
    · rename_i h4
      simp only [decide_eq_true_eq] at h4
      rw [if_pos (by simp [hi, h4]), if_pos (by decide), if_pos (by decide), if_pos (by decide), f22_den]
      simp only [Option.bind_some]
      rw [if_pos (by simp only [decide_eq_true_eq, List.length_singleton]; unfold cap36; omega)]
      refine ih _ ⟨rfl, rfl, ?_, ?_, ?_⟩ ?_ <;> simp only [List.length_append, List.length_singleton] <;> rw [wr (n := i + 1) (by omega) (by omega)] <;> omega
    · rw [if_pos (by decide), if_pos (by decide), if_pos (by decide), f22_den]
      simp only [Option.bind_some]
      rw [if_pos (by simp only [decide_eq_true_eq, List.length_singleton]; unfold cap36; omega)]
      refine ih _ ⟨rfl, rfl, ?_, ?_, ?_⟩ ?_ <;> simp only [List.length_append, List.length_singleton] <;> rw [wr (n := i + 1) (by omega) (by omega)] <;> omega
  · rename_i h3
    simp only [decide_eq_true_eq] at h3
    exact Ends.ret (by simp only; omega)
end Pl
end Go.Proofs.Ytjhcdndmbilogaa
