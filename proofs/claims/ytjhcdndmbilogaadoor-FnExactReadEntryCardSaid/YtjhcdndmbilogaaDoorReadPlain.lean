/-
  Plain facts: what strconv.Atoi reads of a text that Itoa wrote, and what ParseInt gives.
  CONDITIONS: those that each theorem names.
-/
import Derived.Lib.ItoaNum
import Derived.Lib.ItoaMem
import Derived.Lib.Atoi
import Derived.Lib.AtoiAll
namespace Go.Proofs.YtjhcdndmbilogaaDoor
open Go.Lib

theorem decFrom_snoc : ∀ (l : List UInt8) (acc : Nat) (b : UInt8), decFrom acc (l ++ [b]) = (decFrom acc l).bind fun n => (digitVal b).map fun d => n * 10 + d
  | [], acc, b => by
    simp only [List.nil_append, decFrom, Option.bind_some]
    cases digitVal b <;> rfl
  | a :: l, acc, b => by
    simp only [List.cons_append, decFrom]
    cases digitVal a with
    | none => rfl
    | some d => exact decFrom_snoc l _ b
theorem digitVal_of (d : Nat) (h : d < 10) : digitVal (UInt8.ofNat (48 + d)) = some d := by
  unfold digitVal
  have : (UInt8.ofNat (48 + d)).toNat = 48 + d := by simp; omega
  rw [this, if_pos (by omega)]
  simp
theorem decFrom_dec (u : Nat) : decFrom 0 (decDigits u) = some u := by
  induction u using Nat.strongRecOn with
  | _ u ih =>
    rw [decDigits]
    split
    · rename_i h
      have := decFrom_snoc [] 0 (UInt8.ofNat (48 + u))
      simp only [List.nil_append] at this
      rw [this, digitVal_of u h]
      simp [decFrom]
    · rw [decFrom_snoc, ih (u / 10) (by omega), digitVal_of _ (Nat.mod_lt _ (by decide))]
      simp
      omega
theorem dec_ne (u : Nat) : decDigits u ≠ [] := by
  rw [decDigits]
  split <;> simp
theorem decNat_dec (u : Nat) : decNat (decDigits u) = some u := by
  unfold decNat
  rw [if_neg (by simp [dec_ne]), decFrom_dec]
theorem dec_digit (u : Nat) (b : UInt8) (h : b ∈ decDigits u) : 48 ≤ b.toNat ∧ b.toNat ≤ 57 := by
  obtain ⟨k, hk⟩ := List.mem_iff_getElem?.1 h
  obtain ⟨d, hd⟩ := digit_of_decFrom _ _ _ (decFrom_dec u) k b hk
  unfold digitVal at hd
  split at hd
  · assumption
  · cases hd
theorem atoi_itoa (m : Int) : atoi (itoa m) = some m := by
  by_cases h : m < 0
  · unfold itoa
    rw [if_pos h]
    unfold atoi
    simp only [beq_self_eq_true, if_true, decNat_dec]
    simp
    omega
  · unfold itoa
    rw [if_neg h]
    cases hl : decDigits m.toNat with
    | nil => exact absurd hl (dec_ne _)
    | cons b r =>
      have hb := dec_digit m.toNat b (by rw [hl]; simp)
      unfold atoi
      have h45 : (b == 45) = false := by rw [beq_eq_false_iff_ne]; intro e; subst e; exact absurd hb.1 (by decide)
      have h43 : (b == 43) = false := by rw [beq_eq_false_iff_ne]; intro e; subst e; exact absurd hb.1 (by decide)
      simp only [h45, h43]
      rw [← hl, decNat_dec]
      simp
      omega
theorem itoa_inj {m n : Int} (h : itoa m = itoa n) : m = n := by
  have := atoi_itoa m
  rw [h, atoi_itoa] at this
  exact (Option.some.inj this).symm
theorem dec_small (k u : Nat) (h : u < 10 ^ (k + 1)) : (decDigits u).length ≤ k + 1 := by
  induction k generalizing u with
  | zero => rw [decDigits, dif_pos (by simpa using h)]; simp
  | succ k ih =>
    rw [decDigits]
    split
    · simp
    · have := ih (u / 10) (by rw [Nat.pow_succ] at h; omega)
      simp
      omega
theorem itoa_len10 {m : Int} (h0 : -400000000 ≤ m) (h1 : m ≤ 400000000) : (itoa m).length ≤ 10 := by
  unfold itoa
  split
  · have := dec_small 8 m.natAbs (by have : (10 : Nat) ^ 9 = 1000000000 := by decide
                                     rw [this]; omega)
    simp
    omega
  · have := dec_small 8 m.toNat (by have : (10 : Nat) ^ 9 = 1000000000 := by decide
                                    rw [this]; omega)
    omega

/-- n as text. -/
def txt (n : Int) : ByteArray := ⟨(itoa n).toArray⟩
theorem txt_list (n : Int) : (txt n).data.toList = itoa n := by simp [txt]
theorem txt_inj {m n : Int} (h : txt m = txt n) : m = n := itoa_inj (by rw [← txt_list, h, txt_list])
/-- What ParseInt gives: the number that the text spells as FormatInt writes it, within the limit; else 0 and false. -/
def PInt (s : ByteArray) (n : Int) (ok : Bool) : Prop :=
  (ok = true ∧ -400000000 ≤ n ∧ n ≤ 400000000 ∧ txt n = s) ∨ (ok = false ∧ n = 0 ∧ ∀ m, -400000000 ≤ m → m ≤ 400000000 → txt m ≠ s)
theorem PInt.unique {s : ByteArray} {n m : Int} {a b : Bool} (h : PInt s n a) (k : PInt s m b) : n = m ∧ a = b := by
  rcases h with ⟨h1, h2, h3, h4⟩ | ⟨h1, h2, h3⟩ <;> rcases k with ⟨k1, k2, k3, k4⟩ | ⟨k1, k2, k3⟩
  · exact ⟨txt_inj (h4.trans k4.symm), by rw [h1, k1]⟩
  · exact absurd h4 (k3 n h2 h3)
  · exact absurd k4 (h3 m k2 k3)
  · exact ⟨by rw [h2, k2], by rw [h1, k1]⟩
theorem PInt.some_of {m : Int} {s : ByteArray} (h0 : -400000000 ≤ m) (h1 : m ≤ 400000000) (h : txt m = s) : PInt s m true := .inl ⟨rfl, h0, h1, h⟩

end Go.Proofs.YtjhcdndmbilogaaDoor
