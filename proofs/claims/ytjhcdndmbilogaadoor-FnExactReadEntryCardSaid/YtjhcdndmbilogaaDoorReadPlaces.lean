/-
  The first and the last place of a byte.
  CONDITIONS: those that each theorem names.
-/
import Derived.Test.YtjhcdndmbilogaaDoorReadImplInt
namespace Go.Proofs.YtjhcdndmbilogaaDoor
open Go.RowKit Go.Shelf
set_option linter.unusedVariables false
set_option linter.unusedSimpArgs false
theorem index_spec (c : UInt8) : ∀ l : List UInt8, (Lib.indexByte l c = -1 ∧ ∀ (j : Nat), l[j]? ≠ some c) ∨ ∃ f : Nat, Lib.indexByte l c = f ∧ l[f]? = some c ∧ ∀ j, j < f → l[j]? ≠ some c
  | [] => .inl ⟨rfl, fun j => by simp⟩
  | b :: l => by
    unfold Lib.indexByte
    by_cases hb : b = c
    · right
      refine ⟨0, by rw [hb]; simp, by rw [hb]; rfl, fun j h => by omega⟩
    · rw [if_neg (by simpa using hb)]
      rcases index_spec c l with ⟨h1, h2⟩ | ⟨f, h1, h2, h3⟩
      · left
        refine ⟨by rw [h1]; rfl, fun j => ?_⟩
        cases j with
        | zero => simpa using hb
        | succ j => simpa using h2 j
      · right
        refine ⟨f + 1, ?_, by simpa using h2, fun j h => ?_⟩
        · rw [h1, if_neg (by simp; try omega)]
          rfl
        · cases j with
          | zero => simpa using hb
          | succ j => simpa using h3 j (by omega)
theorem colon_get (s : ByteArray) (i : Nat) : (s.data.toList[i]? = some 58) ↔ (i < s.size ∧ colon s i = true) := by
  constructor
  · intro h
    have hlt := (List.getElem?_eq_some_iff.1 h).1
    have hlt' : i < s.size := by simpa using hlt
    refine ⟨hlt', ?_⟩
    rw [colon_data s i hlt']
    rw [Array.getElem?_toList] at h
    rw [(Array.getElem?_eq_some_iff.1 h).2]
    rfl
  · rintro ⟨h1, h2⟩
    rw [colon_data s i h1, beq_iff_eq] at h2
    rw [Array.getElem?_toList, Array.getElem?_eq_getElem h1, h2]

/-- The two places that the library's functions give. -/
theorem last_of (s : ByteArray) : (Lib.lastIndexByte s 58 = -1 ∧ ∀ j, j < s.size → colon s j = false) ∨
    ∃ l : Nat, l < s.size ∧ Lib.lastIndexByte s 58 = l ∧ colon s l = true ∧ ∀ j, l < j → j < s.size → colon s j = false := by
  have hc : ∀ j, j < s.size → (colon s j = true ↔ ((s.data[j]!).toNat : Int) = 58) := fun j hj => by
    have hd : j < s.data.size := hj
    rw [colon_data s j hj, getElem!_pos s.data j hd, beq_iff_eq]
    constructor
    · intro h; rw [h]; rfl
    · intro h
      apply UInt8.toNat_inj.1
      have : (58 : UInt8).toNat = 58 := rfl
      omega
  have hf : ∀ j, j < s.size → ((s.data[j]!).toNat : Int) ≠ 58 → colon s j = false := fun j hj h => by
    cases hcc : colon s j with
    | false => rfl
    | true => exact absurd ((hc j hj).mp hcc) h
  rcases Lib.lastIdx_spec s 58 s.size with ⟨h1, h2⟩ | ⟨i, h1, h2, h3, h4⟩
  · exact .inl ⟨h1, fun j hj => hf j hj (h2 j hj)⟩
  · exact .inr ⟨i, h1, h2, (hc i h1).mpr h3, fun j k1 k2 => hf j k2 (h4 j k1 k2)⟩
/-- First and last: none, one, or two. -/
theorem places (s : ByteArray) : ((¬ ∃ f l, Two s f l) ∧ (Lib.indexByte s.data.toList 58 = -1 ∨ (0 ≤ Lib.indexByte s.data.toList 58 ∧ Lib.indexByte s.data.toList 58 = Lib.lastIndexByte s 58))) ∨
    ∃ f l : Nat, Two s f l ∧ Lib.indexByte s.data.toList 58 = f ∧ Lib.lastIndexByte s 58 = l := by
  rcases index_spec 58 s.data.toList with ⟨h1, h2⟩ | ⟨f, h1, h2, h3⟩
  · left
    refine ⟨?_, .inl h1⟩
    rintro ⟨f, l, k⟩
    have := k.lt
    have := k.size
    exact h2 f ((colon_get s f).mpr ⟨by omega, k.cf⟩)
  · have hcf := (colon_get s f).mp h2
    have hbef : ∀ j, j < f → colon s j = false := fun j hj => by
      cases hcc : colon s j with
      | false => rfl
      | true => exact absurd ((colon_get s j).mpr ⟨by omega, hcc⟩) (h3 j hj)
    rcases last_of s with ⟨l1, l2⟩ | ⟨l, l1, l2, l3, l4⟩
    · have := l2 f hcf.1
      rw [hcf.2] at this
      cases this
    · by_cases he : f = l
      · left
        subst he
        refine ⟨?_, .inr ⟨by omega, by omega⟩⟩
        rintro ⟨f', l', k⟩
        have k1 := k.lt
        have k2 := k.size
        rcases Nat.lt_trichotomy f f' with c | c | c
        · have := l4 f' c (by omega); rw [k.cf] at this; cases this
        · have := l4 l' (by omega) k2; rw [k.cl] at this; cases this
        · have := hbef f' c; rw [k.cf] at this; cases this
      · right
        have hlt : f < l := by
          rcases Nat.lt_trichotomy f l with c | c | c
          · exact c
          · exact absurd c he
          · have := hbef l c; rw [l3] at this; cases this
        exact ⟨f, l, ⟨hlt, l1, hcf.2, l3, hbef, l4⟩, h1, l2⟩
end Go.Proofs.YtjhcdndmbilogaaDoor
