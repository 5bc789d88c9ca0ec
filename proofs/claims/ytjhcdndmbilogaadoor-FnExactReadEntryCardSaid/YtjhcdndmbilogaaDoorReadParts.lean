/-
  The pieces of a text cut at a mark.
  CONDITIONS: those that each theorem names.
-/
import Derived.Test.YtjhcdndmbilogaaDoorReadSplit
namespace Go.Proofs.YtjhcdndmbilogaaDoor
open Go.RowKit Go.Proofs.YtjhcdndmbilogaaDoorW.PrintWords Go.Proofs.YtjhcdndmbilogaaDoorW.PrintLast Go.Proofs.YtjhcdndmbilogaaDoorW.PrintMore PFnExactReadEntry
set_option linter.unusedVariables false
set_option linter.unusedSimpArgs false

/-- Is there a colon at i? -/
def colon (s : ByteArray) (i : Nat) : Bool := bt s i == 58
/-- The parts of s from 'from' on, all before i having been looked at. -/
def pieces (s : ByteArray) : Nat → Nat → Nat → List ByteArray
  | 0, a, i => [s.extract a i]
  | r + 1, a, i => if colon s i then s.extract a i :: pieces s r (i + 1) (i + 1) else pieces s r a (i + 1)

theorem split_run (s : ByteArray) (hs : s.size ≤ 4000000000) : ∀ (r a i : Nat) (x : List ByteArray), i + r = s.size → a ≤ i → x.length ≤ i →
    spec_l1Split.l0 (4 * r + 4) s ⟨#[58]⟩ x a i = some (x ++ pieces s r a i)
  | 0, a, i, x, hi, ha, hx => by
    have e1 : ((i : Int) == (s.size : Int)) = true := beq_iff_eq.mpr (by omega)
    have e2 : ((⟨#[58]⟩ : ByteArray).size : Int) = 1 := rfl
    have w1 : wrap64 (0 + 1) = 1 := IntWalk.wrap64_in _ (by omega)
    have w2 : wrap64 ((i : Int) + 1) = (i : Int) + 1 := IntWalk.wrap64_in _ (by omega)
    show spec_l1Split.l0 (3 + 1) s ⟨#[58]⟩ x a i = _
    rw [spec_l1Split.l0, if_pos (by omega), e1]
    rw [spec_l1Split.l1, e2, if_pos (by decide), if_neg (by omega), if_pos rfl, if_pos (by omega), if_pos (by omega), if_pos (by omega), if_pos (by omega), w2]
    rw [spec_l1Split.l0, if_neg (by omega)]
    simp [pieces]
  | r + 1, a, i, x, hi, ha, hx => by
    have e1 : ((i : Int) == (s.size : Int)) = false := beq_eq_false_iff_ne.mpr (by omega)
    have e2 : ((⟨#[58]⟩ : ByteArray).size : Int) = 1 := rfl
    have e3 : bt (⟨#[58]⟩ : ByteArray) 0 = 58 := by decide
    have w1 : wrap64 (0 + 1) = 1 := IntWalk.wrap64_in _ (by omega)
    have w2 : wrap64 ((i : Int) + 1) = ((i + 1 : Nat) : Int) := IntWalk.wrap64_in _ (by omega)
    show spec_l1Split.l0 (((4 * r + 4 + 1) + 1 + 1) + 1) s ⟨#[58]⟩ x a i = _
    rw [spec_l1Split.l0, if_pos (by omega), e1]
    rw [spec_l1Split.l1, e2, if_pos (by decide), if_pos (by omega), if_neg (by decide), if_pos (by omega), if_pos (by decide), e3, w1]
    rw [spec_l1Split.l1, e2, if_neg (by decide)]
    by_cases hc : colon s i = true
    · have hb : (bt s i == 58) = true := hc
      rw [hb, if_pos rfl, if_pos (by omega), if_pos (by omega), if_pos (by omega), if_pos (by omega), w2]
      have := split_run s hs r (i + 1) (i + 1) (x ++ [s.extract a i]) (by omega) (by omega) (by simp; omega)
      have h2 := (spec_l1Split.mono_l (4 * r + 4)).1 s ⟨#[58]⟩ (x ++ [s.extract a i]) ((i + 1 : Nat) : Int) ((i + 1 : Nat) : Int)
      simp only [Int.toNat_natCast]
      rw [pieces, if_pos hc]
      have := h2 _ this
      rw [List.append_assoc] at this
      exact this
    · have hb : (bt s i == 58) = false := by unfold colon at hc; simpa using hc
      rw [hb, if_neg (by decide), w2]
      have := split_run s hs r a (i + 1) x (by omega) (by omega) (by omega)
      have h2 := (spec_l1Split.mono_l (4 * r + 4)).1 s ⟨#[58]⟩ x (a : Int) ((i + 1 : Nat) : Int)
      rw [pieces, if_neg hc]
      exact h2 _ this

theorem pieces_ne (s : ByteArray) : ∀ (r a i : Nat), pieces s r a i ≠ []
  | 0, a, i => by simp [pieces]
  | r + 1, a, i => by
    unfold pieces
    split
    · simp
    · exact pieces_ne s r a (i + 1)
theorem pieces_none (s : ByteArray) : ∀ (r a i : Nat), (∀ j, i ≤ j → j < i + r → colon s j = false) → pieces s r a i = [s.extract a (i + r)]
  | 0, a, i, _ => rfl
  | r + 1, a, i, h => by
    rw [pieces, if_neg (by rw [h i (Nat.le_refl _) (by omega)]; decide), pieces_none s r a (i + 1) (fun j h1 h2 => h j (by omega) (by omega))]
    congr 2
    omega
theorem pieces_first (s : ByteArray) : ∀ (r a i f : Nat), i ≤ f → f < i + r → colon s f = true → (∀ j, i ≤ j → j < f → colon s j = false) →
    pieces s r a i = s.extract a f :: pieces s (i + r - (f + 1)) (f + 1) (f + 1)
  | 0, a, i, f, h1, h2, _, _ => by omega
  | r + 1, a, i, f, h1, h2, h3, h4 => by
    by_cases he : i = f
    · subst he
      rw [pieces, if_pos h3]
      congr 2
      omega
    · rw [pieces, if_neg (by rw [h4 i (Nat.le_refl _) (by omega)]; decide), pieces_first s r a (i + 1) f (by omega) (by omega) h3 (fun j h1 h2 => h4 j (by omega) h2)]
      congr 2
      omega
theorem pieces_last (s : ByteArray) : ∀ (r a i l : Nat), i ≤ l → l < i + r → colon s l = true → (∀ j, l < j → j < i + r → colon s j = false) →
    (pieces s r a i).getLast? = some (s.extract (l + 1) (i + r)) ∧ 2 ≤ (pieces s r a i).length
  | 0, a, i, l, h1, h2, _, _ => by omega
  | r + 1, a, i, l, h1, h2, h3, h4 => by
    by_cases he : i = l
    · subst he
      rw [pieces, if_pos h3, pieces_none s r (i + 1) (i + 1) (fun j h1 h2 => h4 j (by omega) (by omega))]
      refine ⟨?_, by simp⟩
      simp
      congr 1
      omega
    · have ih := pieces_last s r (if colon s i = true then i + 1 else a) (i + 1) l (by omega) (by omega) h3 (fun j h1 h2 => h4 j h1 (by omega))
      rw [show i + (r + 1) = i + 1 + r by omega]
      rw [pieces]
      by_cases hc : colon s i = true
      · rw [if_pos hc] at ih ⊢
        refine ⟨?_, by simp; omega⟩
        rw [List.getLast?_cons_of_ne_nil (pieces_ne s r _ _)]
        exact ih.1
      · rw [if_neg hc] at ih ⊢
        exact ih

theorem pieces_len (s : ByteArray) : ∀ (r a i : Nat), (pieces s r a i).length ≤ r + 1
  | 0, a, i => by simp [pieces]
  | r + 1, a, i => by
    unfold pieces
    split
    · have := pieces_len s r (i + 1) (i + 1)
      simp
      omega
    · have := pieces_len s r a (i + 1)
      omega
/-- spec.l1Split at the colon: the parts lie in a new slice. -/
theorem split_calls (s : ByteArray) (hs : s.size ≤ 4000000000) (w : World) :
    Calls Tryd.prog 31 #[.string s, .string ⟨#[58]⟩] w fun e w' => ∃ g c, e = .returned (.slice (some ⟨g, 0, none⟩) (pieces s s.size 0 0).length c) ∧
      (∀ (j : Nat) (x : ByteArray), (pieces s s.size 0 0)[j]? = some x → w'.cell? ⟨g, j, none⟩ = some (.string x)) ∧ Below w.heap.size w w' := by
  have h := split_run s hs s.size 0 0 [] (by omega) (by omega) (by simp)
  refine (spec_l1Split.calls _ s ⟨#[58]⟩ (pieces s s.size 0 0) w h).mono fun e w' ⟨v, he, hR, hb⟩ => ?_
  obtain ⟨A, c, rfl, hc, hC⟩ := Kd.R_reads hR
  have hne := pieces_ne s s.size 0 0
  have hlen : 0 < (pieces s s.size 0 0).length := List.length_pos_iff.mpr hne
  obtain ⟨ad, rfl, _⟩ := Kd.at_string hC 0 (by omega) (by omega)
  obtain ⟨g, rfl⟩ := Kd.R_head hR
  refine ⟨g, c, he, fun j x hx => ?_, hb⟩
  have hj := (List.getElem?_eq_some_iff.1 hx).1
  obtain ⟨ad', he', hcell⟩ := Kd.at_string hC (j : Int) (by omega) (by omega)
  cases he'
  have hadd : (⟨g, 0, none⟩ : Addr).add ((j : Int)).toNat = ⟨g, j, none⟩ := by
    unfold Addr.add
    simp only [Int.toNat_natCast, Nat.zero_add]
    split
    · rename_i h0
      rw [h0]
    · rfl
  rw [hadd] at hcell
  rw [hcell]
  unfold rdOf
  simp [List.getD, hx]
end Go.Proofs.YtjhcdndmbilogaaDoor
