/-
  Fractions in lowest terms within the limits, told by rational numbers.
  CONDITIONS: those that each theorem names.
-/

namespace Go.Proofs.Ytjhcdndmbilogaa
namespace RK
abbrev Ra := Int × Int
def Ok (r : Ra) : Prop := 1 ≤ r.2 ∧ r.2 ≤ 400000000 ∧ -400000000 ≤ r.1 ∧ r.1 ≤ 400000000 ∧ Int.gcd r.1 r.2 = 1
instance (r : Ra) : Decidable (Ok r) := by unfold Ok; infer_instance
def val (r : Ra) : Rat := Rat.divInt r.1 r.2
def Fits (q : Rat) : Prop := (q.den : Int) ≤ 400000000 ∧ -400000000 ≤ q.num ∧ q.num ≤ 400000000
instance (q : Rat) : Decidable (Fits q) := by unfold Fits; infer_instance
def canon (q : Rat) : Ra := if Fits q then (q.num, q.den) else (0, 0)
theorem not_ok0 : ¬ Ok (0, 0) := by unfold Ok; simp
theorem val_pair (q : Rat) : val (q.num, q.den) = q := by
  unfold val; simp [Rat.divInt_ofNat, Rat.mkRat_self]
theorem ok_pair {q : Rat} (h : Fits q) : Ok (q.num, q.den) := by
  obtain ⟨h1, h2, h3⟩ := h
  refine ⟨by have := q.den_pos; simp only; omega, h1, h2, h3, ?_⟩
  have := q.reduced
  simpa [Int.gcd] using this
theorem Ok.val_num {r : Ra} (h : Ok r) : (val r).num = r.1 ∧ ((val r).den : Int) = r.2 := by
  obtain ⟨n, d⟩ := r
  obtain ⟨h1, h2, h3, h4, h5⟩ := h
  simp only at h1 h5
  obtain ⟨k, rfl⟩ : ∃ k : Nat, d = k := ⟨d.toNat, by omega⟩
  have hk : k ≠ 0 := by rintro rfl; simp at h1
  have hc : n.natAbs.Coprime k := by simpa [Int.gcd] using h5
  have : val (n, (k : Int)) = ⟨n, k, hk, hc⟩ := by
    unfold val
    simp only [Rat.divInt_ofNat]
    exact (Rat.mk_eq_mkRat n k hk hc).symm
  rw [this]
  exact ⟨rfl, rfl⟩
theorem Ok.fits {r : Ra} (h : Ok r) : Fits (val r) := by
  obtain ⟨e1, e2⟩ := h.val_num
  unfold Fits
  rw [e1, e2]
  exact ⟨h.2.1, h.2.2.1, h.2.2.2.1⟩
theorem Ok.canon {r : Ra} (h : Ok r) : canon (val r) = r := by
  unfold RK.canon
  rw [if_pos h.fits, h.val_num.1, h.val_num.2]
theorem canon_ok {q : Rat} (h : Ok (canon q)) : Fits q ∧ val (canon q) = q := by
  unfold canon at h ⊢
  by_cases hf : Fits q
  · rw [if_pos hf]; exact ⟨hf, val_pair q⟩
  · rw [if_neg hf] at h; exact absurd h not_ok0
theorem canon_val {q : Rat} (h : Ok (canon q)) : val (canon q) = q := (canon_ok h).2
theorem ok_canon {q : Rat} : Ok (canon q) ↔ Fits q := ⟨fun h => (canon_ok h).1, fun h => by unfold canon; rw [if_pos h]; exact ok_pair h⟩
theorem canon_not {q : Rat} (h : ¬ Ok (canon q)) : canon q = (0, 0) := by
  unfold canon; rw [if_neg (fun hf => h (ok_canon.2 hf))]
theorem Ok.inj {a b : Ra} (ha : Ok a) (hb : Ok b) (h : val a = val b) : a = b := by rw [← ha.canon, ← hb.canon, h]
theorem Ok.den_pos {r : Ra} (h : Ok r) : 0 < r.2 := by have := h.1; omega
theorem Ok.lt {a b : Ra} (ha : Ok a) (hb : Ok b) : a.1 * b.2 < b.1 * a.2 ↔ val a < val b := by
  rw [Rat.lt_iff, ha.val_num.1, ha.val_num.2, hb.val_num.1, hb.val_num.2]
theorem Ok.num0 {a : Ra} (ha : Ok a) : a.1 = 0 ↔ val a = 0 := by
  rw [← ha.val_num.1]
  exact Rat.num_eq_zero

/-- A quotient in lowest terms. -/
def mk (n d : Int) : Ra := if d = 0 then (0, 0) else canon (Rat.divInt n d)
def add (a b : Ra) : Ra := if Ok a ∧ Ok b then canon (val a + val b) else (0, 0)
def neg (a : Ra) : Ra := if Ok a then canon (- val a) else (0, 0)
def mul (a b : Ra) : Ra := if Ok a ∧ Ok b then canon (val a * val b) else (0, 0)
def dv (a b : Ra) : Ra := if Ok a ∧ Ok b ∧ val b ≠ 0 then canon (val a / val b) else (0, 0)
def sub (a b : Ra) : Ra := if Ok a ∧ Ok b then canon (val a - val b) else (0, 0)
theorem val_eq {a : Ra} : val a = Rat.divInt a.1 a.2 := rfl
theorem add_mk {a b : Ra} (ha : Ok a) (hb : Ok b) : mk (a.1 * b.2 + b.1 * a.2) (a.2 * b.2) = canon (val a + val b) := by
  have h1 := ha.den_pos; have h2 := hb.den_pos
  unfold mk
  rw [if_neg (by have := Int.mul_pos h1 h2; omega), val_eq, val_eq, Rat.divInt_add_divInt _ _ (by omega) (by omega)]
theorem mul_mk {a b : Ra} (ha : Ok a) (hb : Ok b) : mk (a.1 * b.1) (a.2 * b.2) = canon (val a * val b) := by
  have h1 := ha.den_pos; have h2 := hb.den_pos
  unfold mk
  rw [if_neg (by have := Int.mul_pos h1 h2; omega), val_eq, val_eq, Rat.divInt_mul_divInt]
theorem dv_mk {a b : Ra} (ha : Ok a) (hb : Ok b) (h0 : b.1 ≠ 0) : mk (a.1 * b.2) (a.2 * b.1) = canon (val a / val b) := by
  have h1 := ha.den_pos; have h2 := hb.den_pos
  unfold mk
  rw [if_neg (by intro h; rcases Int.mul_eq_zero.1 h with h | h <;> omega), val_eq, val_eq, Rat.div_def, Rat.inv_divInt, Rat.divInt_mul_divInt]
theorem neg_pair {a : Ra} (ha : Ok a) : (-a.1, a.2) = canon (- val a) := by
  have h : Ok (-a.1, a.2) := by
    obtain ⟨h1, h2, h3, h4, h5⟩ := ha
    exact ⟨h1, h2, by simp only; omega, by simp only; omega, by simpa [Int.gcd] using h5⟩
  rw [← h.canon]
  congr 1
  rw [val_eq, val_eq, Rat.neg_divInt]
theorem neg_ok {a : Ra} (ha : Ok a) : Ok (neg a) ∧ val (neg a) = - val a := by
  have h : Ok (-a.1, a.2) := by
    obtain ⟨h1, h2, h3, h4, h5⟩ := ha
    exact ⟨h1, h2, by simp only; omega, by simp only; omega, by simpa [Int.gcd] using h5⟩
  unfold neg
  rw [if_pos ha, ← neg_pair ha]
  exact ⟨h, by rw [val_eq, val_eq, Rat.neg_divInt]⟩
theorem sub_eq (a b : Ra) : add a (neg b) = sub a b := by
  unfold add sub
  by_cases hb : Ok b
  · by_cases ha : Ok a
    · rw [if_pos ⟨ha, (neg_ok hb).1⟩, if_pos ⟨ha, hb⟩, (neg_ok hb).2, Rat.sub_eq_add_neg]
    · rw [if_neg (fun h => ha h.1), if_neg (fun h => ha h.1)]
  · have : neg b = (0, 0) := by unfold neg; rw [if_neg hb]
    rw [this, if_neg (fun h => not_ok0 h.2), if_neg (fun h => hb h.2)]
end RK
end Go.Proofs.Ytjhcdndmbilogaa
