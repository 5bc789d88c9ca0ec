/-
  What the functions on numbers and ratios do.
  CONDITIONS: those that each theorem names.
-/
import Derived.Test.YtjhcdndmbilogaaP1
import Derived.Test.YtjhcdndmbilogaaRK
namespace Go.Proofs.Ytjhcdndmbilogaa
set_option linter.unusedVariables false
set_option linter.unusedSimpArgs false
namespace Pl
open Go Eng RK

theorem wr {n : Int} (h : -9223372036854775808 ≤ n) (h2 : n < 9223372036854775808) : IntKind.wrap .i64 n = n := by rw [IntKind.wrap_i64]; omega

/-- Rounds that become less. -/
theorem itr_inv {V R : Type} {B : (V → Option R) → V → Option R} (m : V → Nat) (I : V → Prop) (Q : V → Option R → Prop)
    (step : ∀ x rec, I x → (∀ y, I y → m y < m x → Q y (rec y)) → Q x (B rec x)) : ∀ n x, I x → m x < n → Q x (itr B n x)
  | 0, x, _, h => absurd h (by omega)
  | n + 1, x, hI, h => step x (itr B n) hI fun y hy hm => itr_inv m I Q step n y hy (by omega)

theorem gcd_step (a b : Int) : Int.gcd b (a.tmod b) = Int.gcd a b := by
  unfold Int.gcd
  rw [Int.natAbs_tmod, Nat.gcd_comm b.natAbs, ← Nat.gcd_rec, Nat.gcd_comm]

theorem f44_den (x a b : Int) : F44.den (x, (a, (b, ()))) = some ((decide (a ≤ x ∧ x ≤ b), ()), ()) := by
  rw [show F44.den = F44.d0 from rfl]
  unfold F44.d0
  by_cases h : a ≤ x
  · simp [h]
  · simp [h]
theorem f41_den (x : Int) : F41.den (x, ()) = some ((decide (-400000000 ≤ x ∧ x ≤ 400000000), ()), ()) := by
  rw [show F41.den = F41.d0 from rfl]
  unfold F41.d0
  rw [f44_den]; rfl
theorem f45_den (x : Int) : F45.den (x, ()) = some ((decide (-400000000 ≤ x ∧ x ≤ 400000000), ()), ()) := by
  rw [show F45.den = F45.d0 from rfl]
  unfold F45.d0
  by_cases h : (-400000000 : Int) ≤ x
  · simp [h]
  · simp [h]
theorem f50_den (x : Int) (h : -9223372036854775808 < x) (h2 : x < 9223372036854775808) : F50.den (x, ()) = some (((x.natAbs : Int), ()), ()) := by
  rw [show F50.den = F50.d0 from rfl]
  unfold F50.d0 imax
  simp only
  rw [wr (by omega) (by omega)]
  split <;> (congr 3; omega)
theorem f34_den (x : Int) (h : -9223372036854775808 < x) (h2 : x < 9223372036854775808) : F34.den (x, ()) = some (((x.natAbs : Int), ()), ()) := by
  rw [show F34.den = F34.d0 from rfl]
  unfold F34.d0
  simp only
  rw [wr (by omega) (by omega)]
  split <;> rename_i h3 <;> simp at h3 <;> (congr 3; omega)

theorem L54 (n : Nat) (a b : Int) (ha : 0 ≤ a) (hb : 0 ≤ b) (h : b.natAbs < n) : F54.L0 n (a, (b, ())) = some (((Int.gcd a b : Int), ()), ()) := by
  refine itr_inv (B := F54.B0) (fun x : F54.X0 => x.2.1.natAbs) (fun x => 0 ≤ x.1 ∧ 0 ≤ x.2.1) (fun x o => o = some (((Int.gcd x.1 x.2.1 : Int), ()), ())) ?_ n (a, (b, ())) ⟨ha, hb⟩ h
  rintro ⟨a, b, u⟩ rec ⟨ha, hb⟩ ih
  simp only at ha hb ih
  unfold F54.B0 F54.b0
  simp only
  by_cases h0 : b = 0
  · subst h0; simp [Int.gcd, Int.natAbs_of_nonneg ha]
  · have h1 : (b != 0) = true := by simpa using h0
    rw [if_pos h1, if_pos h1, ih (b, (a.tmod b, ())) ⟨hb, Int.tmod_nonneg _ ha⟩ (by simp only [Int.natAbs_tmod]; exact Nat.mod_lt _ (by omega))]
    simp only [gcd_step]
theorem f54_den (a b : Int) (ha : -9223372036854775808 < a) (ha2 : a < 9223372036854775808) (hb : -9223372036854775808 < b) (hb2 : b < 9223372036854775808) :
    F54.den (a, (b, ())) = some (((Int.gcd a b : Int), ()), ()) := by
  show F54.d0 (F54.L0 big) _ = _
  unfold F54.d0
  rw [f34_den a ha ha2]
  simp only [Option.bind_some]
  rw [f34_den b hb hb2]
  simp only [Option.bind_some]
  rw [L54 big _ _ (by omega) (by omega) (by unfold big; omega)]
  simp [Int.gcd]
theorem L49 (n : Nat) (a b : Int) (ha : -9223372036854775808 < a) (ha2 : a < 9223372036854775808) (hb : -9223372036854775808 < b) (hb2 : b < 9223372036854775808) (h : b.natAbs < n) :
    F49.L0 n (a, (b, ())) = some (((Int.gcd a b : Int), ()), ()) := by
  refine itr_inv (B := F49.B0) (fun x : F49.X0 => x.2.1.natAbs) (fun x => x.1.natAbs < 9223372036854775808 ∧ x.2.1.natAbs < 9223372036854775808) (fun x o => o = some (((Int.gcd x.1 x.2.1 : Int), ()), ())) ?_ n (a, (b, ())) ⟨by simp only; omega, by simp only; omega⟩ h
  rintro ⟨a, b, u⟩ rec ⟨ha, hb⟩ ih
  simp only at ha hb ih
  unfold F49.B0 F49.b0
  simp only
  by_cases h0 : b = 0
  · subst h0; simp [Int.gcd, f50_den a (by omega) (by omega)]
  · have h1 : (b != 0) = true := by simpa using h0
    have h2 : (a.tmod b).natAbs < b.natAbs := by rw [Int.natAbs_tmod]; exact Nat.mod_lt _ (by omega)
    rw [if_pos h1, if_pos h1, ih (b, (a.tmod b, ())) ⟨hb, by simp only; omega⟩ h2]
    simp only [gcd_step]
theorem f46_den (a b : Int) : F46.den (a, (b, ())) = some ((if (-400000000 ≤ a ∧ a ≤ 400000000) ∧ (-400000000 ≤ b ∧ b ≤ 400000000) then (Int.gcd a b : Int) else 0, ()), ()) := by
  rw [show F46.den = F46.d0 from rfl]
  unfold F46.d0
  rw [f45_den]
  simp only [Option.bind_some]
  by_cases h1 : (-400000000 : Int) ≤ a ∧ a ≤ 400000000
  · rw [decide_eq_true h1, f45_den]
    simp only [Option.bind_some]
    by_cases h2 : (-400000000 : Int) ≤ b ∧ b ≤ 400000000
    · rw [decide_eq_true h2, f54_den _ _ (by omega) (by omega) (by omega) (by omega), if_pos (show (-400000000 ≤ a ∧ a ≤ 400000000) ∧ (-400000000 ≤ b ∧ b ≤ 400000000) from ⟨h1, h2⟩)]; rfl
    · rw [decide_eq_false h2, if_neg (show ¬((-400000000 ≤ a ∧ a ≤ 400000000) ∧ (-400000000 ≤ b ∧ b ≤ 400000000)) from fun h => h2 h.2)]; rfl
  · rw [decide_eq_false h1, if_neg (show ¬((-400000000 ≤ a ∧ a ≤ 400000000) ∧ (-400000000 ≤ b ∧ b ≤ 400000000)) from fun h => h1 h.1)]; rfl
theorem f49_den (a b : Int) : F49.den (a, (b, ())) = some ((if (-400000000 ≤ a ∧ a ≤ 400000000) ∧ (-400000000 ≤ b ∧ b ≤ 400000000) then (Int.gcd a b : Int) else 0, ()), ()) := by
  show F49.d0 (F49.L0 big) _ = _
  unfold F49.d0
  rw [f41_den]
  simp only [Option.bind_some]
  by_cases h1 : (-400000000 : Int) ≤ a ∧ a ≤ 400000000
  · rw [decide_eq_true h1, f41_den]
    simp only [Option.bind_some]
    by_cases h2 : (-400000000 : Int) ≤ b ∧ b ≤ 400000000
    · rw [decide_eq_true h2, L49 big _ _ (by omega) (by omega) (by omega) (by omega) (by unfold big; omega), if_pos (show (-400000000 ≤ a ∧ a ≤ 400000000) ∧ (-400000000 ≤ b ∧ b ≤ 400000000) from ⟨h1, h2⟩)]; rfl
    · rw [decide_eq_false h2, if_neg (show ¬((-400000000 ≤ a ∧ a ≤ 400000000) ∧ (-400000000 ≤ b ∧ b ≤ 400000000)) from fun h => h2 h.2)]; rfl
  · rw [decide_eq_false h1, if_neg (show ¬((-400000000 ≤ a ∧ a ≤ 400000000) ∧ (-400000000 ≤ b ∧ b ≤ 400000000)) from fun h => h1 h.1)]; rfl

theorem ok_iff {r : Ra} : Ok r ↔ (1 ≤ r.2 ∧ r.2 ≤ 400000000) ∧ (-400000000 ≤ r.1 ∧ r.1 ≤ 400000000) ∧ Int.gcd r.1 r.2 = 1 := by
  unfold RK.Ok; constructor <;> (intro h; refine ⟨?_, ?_⟩) <;> grind
theorem f31_den (r : Ra) : F31.den ((r, ()), ()) = some ((decide (Ok r), ()), ()) := by
  rw [show F31.den = F31.d0 from rfl]
  unfold F31.d0
  simp only
  rw [f44_den]
  simp only [Option.bind_some]
  by_cases h1 : 1 ≤ r.2 ∧ r.2 ≤ 400000000
  · rw [decide_eq_true h1, if_pos rfl, f41_den]
    simp only [Option.bind_some]
    by_cases h2 : (-400000000 : Int) ≤ r.1 ∧ r.1 ≤ 400000000
    · rw [decide_eq_true h2, if_pos rfl, f49_den, if_pos ⟨h2, by omega⟩]
      simp only [Option.bind_some]
      congr 3
      rw [Bool.eq_iff_iff]
      simp only [beq_iff_eq, decide_eq_true_eq, ok_iff]
      constructor
      · intro h; exact ⟨h1, h2, by omega⟩
      · intro h; have := h.2.2; omega
    · rw [decide_eq_false h2, decide_eq_false (fun h => h2 (ok_iff.1 h).2.1)]; rfl
  · rw [decide_eq_false h1, decide_eq_false (fun h => h1 (ok_iff.1 h).1)]; rfl
theorem f27_den (r : Ra) : F27.den ((r, ()), ()) = some ((decide (Ok r), ()), ()) := by
  rw [show F27.den = F27.d0 from rfl]
  unfold F27.d0
  simp only
  by_cases h1 : 1 ≤ r.2
  · by_cases h1' : r.2 ≤ 400000000
    · rw [if_pos (by simpa using h1), if_pos (by simpa using h1'), f45_den]
      simp only [Option.bind_some]
      by_cases h2 : (-400000000 : Int) ≤ r.1 ∧ r.1 ≤ 400000000
      · rw [decide_eq_true h2, if_pos rfl, f46_den, if_pos ⟨h2, by omega⟩]
        simp only [Option.bind_some]
        congr 3
        rw [Bool.eq_iff_iff]
        simp only [beq_iff_eq, decide_eq_true_eq, ok_iff]
        constructor
        · intro h; exact ⟨⟨h1, h1'⟩, h2, by omega⟩
        · intro h; have := h.2.2; omega
      · rw [decide_eq_false h2, decide_eq_false (fun h => h2 (ok_iff.1 h).2.1)]; rfl
    · rw [if_pos (by simpa using h1), if_neg (by simpa using h1'), decide_eq_false (fun h => h1' (ok_iff.1 h).1.2)]
  · rw [if_neg (by simpa using h1), decide_eq_false (fun h => h1 (ok_iff.1 h).1.1)]

/-! ### The quotient in lowest terms -/
theorem mk_pos {n d : Int} (hd : 0 < d) : ((n.tdiv (Int.gcd n d), d.tdiv (Int.gcd n d)) : Ra) = ((Rat.divInt n d).num, ((Rat.divInt n d).den : Int)) := by
  have hg : (0 : Int) < Int.gcd n d := by have := Int.gcd_pos_of_ne_zero_right n (b := d) (by omega); omega
  have h1 : ((Int.gcd n d : Nat) : Int) ∣ n := Int.gcd_dvd_left ..
  have h2 : ((Int.gcd n d : Nat) : Int) ∣ d := Int.gcd_dvd_right ..
  rw [Rat.num_divInt, Rat.den_divInt, if_neg (by omega), Int.sign_eq_one_of_pos hd, Int.one_mul, Int.gcd_comm d n]
  rw [Int.tdiv_eq_ediv_of_dvd h1, Int.tdiv_eq_ediv_of_dvd h2]
  congr 1
  rw [Int.natCast_ediv, Int.natAbs_of_nonneg (by omega)]
theorem mk_calc {n d : Int} (hd : 0 < d) : (if Ok (n.tdiv (Int.gcd n d), d.tdiv (Int.gcd n d)) then ((n.tdiv (Int.gcd n d), d.tdiv (Int.gcd n d)) : Ra) else (0, 0)) = mk n d := by
  rw [mk_pos hd]
  unfold mk canon
  rw [if_neg (show ¬ (d = 0) from by omega)]
  by_cases h : Fits (Rat.divInt n d)
  · rw [if_pos h, if_pos (ok_pair h)]
  · rw [if_neg h, if_neg (show ¬ RK.Ok ((Rat.divInt n d).num, ((Rat.divInt n d).den : Int)) from fun h2 => h ⟨h2.2.1, h2.2.2.1, h2.2.2.2.1⟩)]
theorem mk_neg (n d : Int) : mk (-n) (-d) = mk n d := by
  unfold mk
  by_cases h : d = 0
  · subst h; rfl
  · rw [if_neg (by omega), if_neg h]
    congr 1
    rw [Rat.divInt_eq_divInt_iff (by omega) h]
    simp [Int.neg_mul, Int.mul_neg]

/-- Small enough for a quotient. -/
def Sm (n : Int) : Prop := -4611686018427387904 < n ∧ n < 4611686018427387904
theorem mul_sm {a b : Int} (ha : -400000000 ≤ a ∧ a ≤ 400000000) (hb : -400000000 ≤ b ∧ b ≤ 400000000) : -160000000000000000 ≤ a * b ∧ a * b ≤ 160000000000000000 := by
  have h : (a * b).natAbs ≤ 400000000 * 400000000 := by
    rw [Int.natAbs_mul]
    exact Nat.mul_le_mul (by omega) (by omega)
  omega
theorem tdiv_sm {n g : Int} (hn : Sm n) : Sm (n.tdiv g) := by
  have h : (n.tdiv g).natAbs ≤ n.natAbs := by rw [Int.natAbs_tdiv]; exact Nat.div_le_self _ _
  unfold Sm at *
  omega
theorem wr_sm {n : Int} (h : Sm n) : IntKind.wrap .i64 n = n := by unfold Sm at h; exact wr (by omega) (by omega)
theorem sm_neg {n : Int} (h : Sm n) : Sm (0 - n) := by unfold Sm at *; omega

theorem fin43 {n d : Int} (hn : Sm n) (hd : Sm d) (h : 0 < d) (K : Ra → Option F43.R) (hK : K = fun r => (Option.bind (F27.den ((r, ()), ())) fun y2 => (if (!y2.1.1) = true then (some ((((0, 0), ()), ()), ())) else (some ((((r), ()), ()), ()))))) :
    (if ((Int.gcd n d : Int) != 0) = true then (if ((Int.gcd n d : Int) != 0) = true then K (IntKind.wrap .i64 (n.tdiv (Int.gcd n d)), IntKind.wrap .i64 (d.tdiv (Int.gcd n d))) else none) else none) = some (((mk n d, ()), ()), ()) := by
  have hg : (0 : Int) < Int.gcd n d := by have := Int.gcd_pos_of_ne_zero_right n (b := d) (by omega); omega
  have h1 : ((Int.gcd n d : Int) != 0) = true := by simp only [bne_iff_ne, ne_eq]; omega
  subst hK
  rw [if_pos h1, if_pos h1, wr_sm (tdiv_sm hn), wr_sm (tdiv_sm hd), ← mk_calc h]
  show (Option.bind (F27.den ((_, ()), ())) _) = _
  rw [f27_den]
  simp only [Option.bind_some]
  by_cases ho : RK.Ok (n.tdiv (Int.gcd n d), d.tdiv (Int.gcd n d))
  · rw [decide_eq_true ho, if_pos ho]; rfl
  · rw [decide_eq_false ho, if_neg ho]; rfl
theorem f43_den (n d : Int) (hn : Sm n) (hd : Sm d) : F43.den (n, (d, ())) = some (((mk n d, ()), ()), ()) := by
  rw [show F43.den = F43.d0 from rfl]
  unfold F43.d0
  simp only
  by_cases h0 : d = 0
  · subst h0; rfl
  · rw [if_neg (by simpa using h0)]
    by_cases h1 : d < 0
    · rw [if_pos (by simpa using h1), wr_sm (sm_neg hn), wr_sm (sm_neg hd), f54_den _ _ (by unfold Sm at *; omega) (by unfold Sm at *; omega) (by unfold Sm at *; omega) (by unfold Sm at *; omega)]
      simp only [Option.bind_some]
      have := fin43 (n := 0 - n) (d := 0 - d) (sm_neg hn) (sm_neg hd) (by omega) _ rfl
      rw [Int.zero_sub, Int.zero_sub, mk_neg] at this
      rw [Int.zero_sub, Int.zero_sub]
      exact this
    · rw [if_neg (by simpa using h1), f54_den _ _ (by unfold Sm at *; omega) (by unfold Sm at *; omega) (by unfold Sm at *; omega) (by unfold Sm at *; omega)]
      simp only [Option.bind_some]
      exact fin43 hn hd (by omega) _ rfl
theorem L32 (k : Nat) (n d a b : Int) (hn : Sm n) (hd : Sm d) (h0 : 0 < d) (hg : Int.gcd a b = Int.gcd n d) (ha : -9223372036854775808 < a) (ha2 : a < 9223372036854775808) (hb : -9223372036854775808 < b) (hb2 : b < 9223372036854775808)
    (h : b.natAbs < k) (z : Ra × Unit) : F32.L0 k (n, (d, (z, (a, (b, ()))))) = some (((mk n d, ()), ()), ()) := by
  refine itr_inv (B := F32.B0) (fun x : F32.X0 => x.2.2.2.2.1.natAbs) (fun x => x.1 = n ∧ x.2.1 = d ∧ Int.gcd x.2.2.2.1 x.2.2.2.2.1 = Int.gcd n d ∧ x.2.2.2.1.natAbs < 9223372036854775808 ∧ x.2.2.2.2.1.natAbs < 9223372036854775808) (fun x o => o = some (((mk n d, ()), ()), ())) ?_ k (n, (d, (z, (a, (b, ()))))) ⟨rfl, rfl, hg, by simp only; omega, by simp only; omega⟩ h
  clear hg ha ha2 hb hb2 h z a b
  rintro ⟨n', d', z, a, b, u⟩ rec ⟨rfl, rfl, hg, ha, hb⟩ ih
  simp only at hg ha hb ih hn hd h0 ⊢
  unfold F32.B0 F32.b0
  simp only
  by_cases hb0 : b = 0
  · subst hb0
    rw [if_neg (by simp), f50_den a (by omega) (by omega)]
    simp only [Option.bind_some]
    have e : (a.natAbs : Int) = (Int.gcd n' d' : Int) := by rw [← hg]; simp [Int.gcd]
    rw [e]
    have hgp : (0 : Int) < Int.gcd n' d' := by have := Int.gcd_pos_of_ne_zero_right n' (b := d') (by omega); omega
    have h1 : ((Int.gcd n' d' : Int) != 0) = true := by simp only [bne_iff_ne, ne_eq]; omega
    rw [if_pos h1, if_pos h1, wr_sm (tdiv_sm hn), wr_sm (tdiv_sm hd), f31_den, ← mk_calc h0]
    simp only [Option.bind_some]
    by_cases ho : RK.Ok (n'.tdiv (Int.gcd n' d'), d'.tdiv (Int.gcd n' d'))
    · rw [decide_eq_true ho, if_pos ho]; rfl
    · rw [decide_eq_false ho, if_neg ho]; rfl
  · have h1 : (b != 0) = true := by simpa using hb0
    have h2 : (a.tmod b).natAbs < b.natAbs := by rw [Int.natAbs_tmod]; exact Nat.mod_lt _ (by omega)
    rw [if_pos h1, if_pos h1]
    exact ih _ ⟨rfl, rfl, by simp only [gcd_step]; exact hg, hb, by simp only; omega⟩ h2
theorem f32_den (n d : Int) (hn : Sm n) (hd : Sm d) : F32.den (n, (d, ())) = some (((mk n d, ()), ()), ()) := by
  rw [show F32.den = F32.d0 (F32.L0 big) from rfl]
  unfold F32.d0
  simp only
  by_cases h0 : d = 0
  · subst h0; rfl
  · rw [if_neg (by simpa using h0)]
    by_cases h1 : d < 0
    · rw [if_pos (by simpa using h1), wr_sm (sm_neg hn), wr_sm (sm_neg hd), L32 big _ _ _ _ (sm_neg hn) (sm_neg hd) (by omega) rfl (by unfold Sm at *; omega) (by unfold Sm at *; omega) (by unfold Sm at *; omega) (by unfold Sm at *; omega) (by unfold big Sm at *; omega)]
      rw [Int.zero_sub, Int.zero_sub, mk_neg]
    · rw [if_neg (by simpa using h1), L32 big _ _ _ _ hn hd (by omega) rfl (by unfold Sm at *; omega) (by unfold Sm at *; omega) (by unfold Sm at *; omega) (by unfold Sm at *; omega) (by unfold big Sm at *; omega)]
theorem bnds {a b : Ra} (ha : RK.Ok a) (hb : RK.Ok b) : (-160000000000000000 ≤ a.1 * b.2 ∧ a.1 * b.2 ≤ 160000000000000000) ∧ (-160000000000000000 ≤ b.1 * a.2 ∧ b.1 * a.2 ≤ 160000000000000000) ∧
    (-160000000000000000 ≤ a.2 * b.2 ∧ a.2 * b.2 ≤ 160000000000000000) ∧ (-160000000000000000 ≤ a.1 * b.1 ∧ a.1 * b.1 ≤ 160000000000000000) ∧ (-160000000000000000 ≤ a.2 * b.1 ∧ a.2 * b.1 ≤ 160000000000000000) ∧ (0 < a.2 * b.2) := by
  obtain ⟨a1, a2, a3, a4, _⟩ := ha
  obtain ⟨b1, b2, b3, b4, _⟩ := hb
  exact ⟨mul_sm (by omega) (by omega), mul_sm (by omega) (by omega), mul_sm (by omega) (by omega), mul_sm (by omega) (by omega), mul_sm (by omega) (by omega), Int.mul_pos (by omega) (by omega)⟩
theorem f25_den (a b : Ra) : F25.den ((a, ()), ((b, ()), ())) = some (((add a b, ()), ()), ()) := by
  rw [show F25.den = F25.d0 from rfl]
  unfold F25.d0 add
  simp only
  rw [f27_den]
  simp only [Option.bind_some]
  by_cases ha : RK.Ok a
  · rw [decide_eq_true ha, f27_den]
    simp only [Option.bind_some]
    by_cases hb : RK.Ok b
    · obtain ⟨b1, b2, b3, b4, b5, b6⟩ := bnds ha hb
      rw [decide_eq_true hb, if_pos (show RK.Ok a ∧ RK.Ok b from ⟨ha, hb⟩)]
      simp only [Bool.not_true, Bool.false_eq_true, if_true, if_false]
      rw [wr (n := a.1 * b.2) (by omega) (by omega), wr (n := b.1 * a.2) (by omega) (by omega), wr (n := a.2 * b.2) (by omega) (by omega), wr (by omega) (by omega), f43_den _ _ (by unfold Sm; omega) (by unfold Sm; omega), add_mk ha hb]; rfl
    · rw [decide_eq_false hb, if_neg (show ¬ (RK.Ok a ∧ RK.Ok b) from fun h => hb h.2)]; rfl
  · rw [decide_eq_false ha, if_neg (show ¬ (RK.Ok a ∧ RK.Ok b) from fun h => ha h.1)]; rfl
theorem f11_den (a b : Ra) : F11.den ((a, ()), ((b, ()), ())) = some (((add a b, ()), ()), ()) := by
  rw [show F11.den = F11.d0 from rfl]
  unfold F11.d0 add
  simp only
  rw [f31_den]
  simp only [Option.bind_some]
  by_cases ha : RK.Ok a
  · rw [decide_eq_true ha, f31_den]
    simp only [Option.bind_some]
    by_cases hb : RK.Ok b
    · obtain ⟨b1, b2, b3, b4, b5, b6⟩ := bnds ha hb
      rw [decide_eq_true hb, if_pos (show RK.Ok a ∧ RK.Ok b from ⟨ha, hb⟩)]
      simp only [Bool.not_true, Bool.false_eq_true, if_true, if_false]
      rw [wr (n := a.1 * b.2) (by omega) (by omega), wr (n := b.1 * a.2) (by omega) (by omega), wr (n := a.2 * b.2) (by omega) (by omega), wr (by omega) (by omega), f32_den _ _ (by unfold Sm; omega) (by unfold Sm; omega), add_mk ha hb]; rfl
    · rw [decide_eq_false hb, if_neg (show ¬ (RK.Ok a ∧ RK.Ok b) from fun h => hb h.2)]; rfl
  · rw [decide_eq_false ha, if_neg (show ¬ (RK.Ok a ∧ RK.Ok b) from fun h => ha h.1)]; rfl
theorem f29_den (a b : Ra) : F29.den ((a, ()), ((b, ()), ())) = some (((mul a b, ()), ()), ()) := by
  rw [show F29.den = F29.d0 from rfl]
  unfold F29.d0 mul
  simp only
  rw [f27_den]
  simp only [Option.bind_some]
  by_cases ha : RK.Ok a
  · rw [decide_eq_true ha, f27_den]
    simp only [Option.bind_some]
    by_cases hb : RK.Ok b
    · obtain ⟨b1, b2, b3, b4, b5, b6⟩ := bnds ha hb
      rw [decide_eq_true hb, if_pos (show RK.Ok a ∧ RK.Ok b from ⟨ha, hb⟩)]
      simp only [Bool.not_true, Bool.false_eq_true, if_true, if_false]
      rw [wr (n := a.1 * b.1) (by omega) (by omega), wr (n := a.2 * b.2) (by omega) (by omega), f43_den _ _ (by unfold Sm; omega) (by unfold Sm; omega), mul_mk ha hb]; rfl
    · rw [decide_eq_false hb, if_neg (show ¬ (RK.Ok a ∧ RK.Ok b) from fun h => hb h.2)]; rfl
  · rw [decide_eq_false ha, if_neg (show ¬ (RK.Ok a ∧ RK.Ok b) from fun h => ha h.1)]; rfl
theorem f58_den (a b : Ra) : F58.den ((a, ()), ((b, ()), ())) = some (((mul a b, ()), ()), ()) := by
  rw [show F58.den = F58.d0 from rfl]
  unfold F58.d0 mul
  simp only
  rw [f31_den]
  simp only [Option.bind_some]
  by_cases ha : RK.Ok a
  · rw [decide_eq_true ha, f31_den]
    simp only [Option.bind_some]
    by_cases hb : RK.Ok b
    · obtain ⟨b1, b2, b3, b4, b5, b6⟩ := bnds ha hb
      rw [decide_eq_true hb, if_pos (show RK.Ok a ∧ RK.Ok b from ⟨ha, hb⟩)]
      simp only [Bool.not_true, Bool.false_eq_true, if_true, if_false]
      rw [wr (n := a.1 * b.1) (by omega) (by omega), wr (n := a.2 * b.2) (by omega) (by omega), f32_den _ _ (by unfold Sm; omega) (by unfold Sm; omega), mul_mk ha hb]; rfl
    · rw [decide_eq_false hb, if_neg (show ¬ (RK.Ok a ∧ RK.Ok b) from fun h => hb h.2)]; rfl
  · rw [decide_eq_false ha, if_neg (show ¬ (RK.Ok a ∧ RK.Ok b) from fun h => ha h.1)]; rfl
theorem f55_den (a b : Ra) : F55.den ((a, ()), ((b, ()), ())) = some (((dv a b, ()), ()), ()) := by
  rw [show F55.den = F55.d0 from rfl]
  unfold F55.d0 dv
  simp only
  rw [f27_den]
  simp only [Option.bind_some]
  by_cases ha : RK.Ok a
  · rw [decide_eq_true ha, f27_den]
    simp only [Option.bind_some]
    by_cases hb : RK.Ok b
    · obtain ⟨b1, b2, b3, b4, b5, b6⟩ := bnds ha hb
      rw [decide_eq_true hb]
      simp only [Bool.not_true, if_true]
      by_cases h0 : b.1 = 0
      · rw [if_pos (by simpa using h0), if_neg (show ¬ (RK.Ok a ∧ RK.Ok b ∧ val b ≠ 0) from fun h => h.2.2 (hb.num0.1 h0))]
      · rw [if_neg (by simpa using h0), if_pos (show RK.Ok a ∧ RK.Ok b ∧ val b ≠ 0 from ⟨ha, hb, fun h => h0 (hb.num0.2 h)⟩)]
        rw [wr (n := a.1 * b.2) (by omega) (by omega), wr (n := a.2 * b.1) (by omega) (by omega), f43_den _ _ (by unfold Sm; omega) (by unfold Sm; omega), dv_mk ha hb h0]; rfl
    · rw [decide_eq_false hb, if_neg (show ¬ (RK.Ok a ∧ RK.Ok b ∧ val b ≠ 0) from fun h => hb h.2.1)]; rfl
  · rw [decide_eq_false ha, if_neg (show ¬ (RK.Ok a ∧ RK.Ok b ∧ val b ≠ 0) from fun h => ha h.1)]; rfl
theorem f60_den (a b : Ra) : F60.den ((a, ()), ((b, ()), ())) = some (((dv a b, ()), ()), ()) := by
  rw [show F60.den = F60.d0 from rfl]
  unfold F60.d0 dv
  simp only
  rw [f31_den]
  simp only [Option.bind_some]
  by_cases ha : RK.Ok a
  · rw [decide_eq_true ha, f31_den]
    simp only [Option.bind_some]
    by_cases hb : RK.Ok b
    · obtain ⟨b1, b2, b3, b4, b5, b6⟩ := bnds ha hb
      rw [decide_eq_true hb]
      simp only [Bool.not_true, if_true]
      by_cases h0 : b.1 = 0
      · rw [if_pos (by simpa using h0), if_neg (show ¬ (RK.Ok a ∧ RK.Ok b ∧ val b ≠ 0) from fun h => h.2.2 (hb.num0.1 h0))]
      · rw [if_neg (by simpa using h0), if_pos (show RK.Ok a ∧ RK.Ok b ∧ val b ≠ 0 from ⟨ha, hb, fun h => h0 (hb.num0.2 h)⟩)]
        rw [wr (n := a.1 * b.2) (by omega) (by omega), wr (n := a.2 * b.1) (by omega) (by omega), f32_den _ _ (by unfold Sm; omega) (by unfold Sm; omega), dv_mk ha hb h0]; rfl
    · rw [decide_eq_false hb, if_neg (show ¬ (RK.Ok a ∧ RK.Ok b ∧ val b ≠ 0) from fun h => hb h.2.1)]; rfl
  · rw [decide_eq_false ha, if_neg (show ¬ (RK.Ok a ∧ RK.Ok b ∧ val b ≠ 0) from fun h => ha h.1)]; rfl
theorem f59_den (a : Ra) : F59.den ((a, ()), ()) = some (((neg a, ()), ()), ()) := by
  rw [show F59.den = F59.d0 from rfl]
  unfold F59.d0 neg
  simp only
  rw [f27_den]
  simp only [Option.bind_some]
  by_cases ha : RK.Ok a
  · rw [decide_eq_true ha, if_pos ha, ← neg_pair ha, wr (n := 0 - a.1) (by unfold RK.Ok at ha; omega) (by unfold RK.Ok at ha; omega), Int.zero_sub]; rfl
  · rw [decide_eq_false ha, if_neg ha]; rfl
theorem f61_den (a : Ra) : F61.den ((a, ()), ()) = some (((neg a, ()), ()), ()) := by
  rw [show F61.den = F61.d0 from rfl]
  unfold F61.d0 neg
  simp only
  rw [f31_den]
  simp only [Option.bind_some]
  by_cases ha : RK.Ok a
  · rw [decide_eq_true ha, if_pos ha, ← neg_pair ha, wr (n := 0 - a.1) (by unfold RK.Ok at ha; omega) (by unfold RK.Ok at ha; omega), Int.zero_sub]; rfl
  · rw [decide_eq_false ha, if_neg ha]; rfl
theorem f56_den (a b : Ra) : F56.den ((a, ()), ((b, ()), ())) = some (((sub a b, ()), ()), ()) := by
  rw [show F56.den = F56.d0 from rfl]
  unfold F56.d0
  simp only
  rw [f59_den]
  simp only [Option.bind_some]
  rw [f25_den, sub_eq]; rfl
/-- The order of two ratios, as a number. -/
def cmp (a b : Ra) : Int := if RK.Ok a ∧ RK.Ok b then (if val a < val b then -1 else if val b < val a then 1 else 0) else 2
theorem f17_den (a b : Ra) : F17.den ((a, ()), ((b, ()), ())) = some ((cmp a b, ()), ()) := by
  rw [show F17.den = F17.d0 from rfl]
  unfold F17.d0 cmp
  simp only
  rw [f27_den]
  simp only [Option.bind_some]
  by_cases ha : RK.Ok a
  · rw [decide_eq_true ha, f27_den]
    simp only [Option.bind_some]
    by_cases hb : RK.Ok b
    · obtain ⟨b1, b2, b3, b4, b5, b6⟩ := bnds ha hb
      rw [decide_eq_true hb, if_pos (show RK.Ok a ∧ RK.Ok b from ⟨ha, hb⟩)]
      simp only [Bool.not_true, Bool.false_eq_true, if_true, if_false]
      rw [wr (n := a.1 * b.2) (by omega) (by omega), wr (n := b.1 * a.2) (by omega) (by omega)]
      simp only [decide_eq_true_eq, gt_iff_lt, ha.lt hb, hb.lt ha]
      split
      · rfl
      · split <;> rfl
    · rw [decide_eq_false hb, if_neg (show ¬ (RK.Ok a ∧ RK.Ok b) from fun h => hb h.2)]; rfl
  · rw [decide_eq_false ha, if_neg (show ¬ (RK.Ok a ∧ RK.Ok b) from fun h => ha h.1)]; rfl
theorem f36_den (a b : Ra) (ha : RK.Ok a) (hb : RK.Ok b) : F36.den ((a, ()), ((b, ()), ())) = some ((decide (val a < val b), ()), ()) := by
  rw [show F36.den = F36.d0 from rfl]
  unfold F36.d0
  simp only
  obtain ⟨b1, b2, b3, b4, b5, b6⟩ := bnds ha hb
  rw [wr (n := a.1 * b.2) (by omega) (by omega), wr (n := b.1 * a.2) (by omega) (by omega)]
  simp only [ha.lt hb]
theorem f37_den (n : Int) : F37.den (n, ()) = some ((((n, 1), ()), ()), ()) := rfl
end Pl
end Go.Proofs.Ytjhcdndmbilogaa
