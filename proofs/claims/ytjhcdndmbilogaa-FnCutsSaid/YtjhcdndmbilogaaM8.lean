/-
  Tracks that are cut and joined.
  CONDITIONS: those that each theorem names.
-/
import Derived.Test.YtjhcdndmbilogaaM7
namespace Go.Proofs.Ytjhcdndmbilogaa
set_option linter.unusedVariables false
set_option linter.unusedSimpArgs false
namespace Pl
open Go Eng RK

/-- Strictly between two times. -/
def btw (a b : Ra) (s : Stp) : Bool := decide (val a < val s.1 ∧ val s.1 < val b)
def part0 (l : List Stp) (a b : Ra) (p q : List Ra) : List Stp := ([(a, (gr p 0, gr p 1))] ++ l.filter (btw a b)) ++ (if b = a then [] else [(b, (gr q 0, gr q 1))])
noncomputable def cutF (l : List Stp) (a b : Ra) : List Stp × Bool :=
  if (posF l a).2 = true ∧ (posF l b).2 = true ∧ ¬ val b < val a ∧ isTrk (part0 l a b (posF l a).1 (posF l b).1) = true then (part0 l a b (posF l a).1 (posF l b).1, true) else ([], false)
theorem legPos_two {x : Lg} {t : Ra} (h : (legPos x t).2 = true) : (legPos x t).1.length = 2 := by
  unfold legPos at h ⊢
  split
  · rfl
  · rename_i hc; rw [if_neg hc] at h; cases h
theorem posG_two {l : List Stp} {t : Ra} : ∀ {k i : Nat}, (posG l t k i).2 = true → (posG l t k i).1.length = 2
  | 0, i, h => by simp [posG] at h
  | k + 1, i, h => by
    rw [posG_succ] at h ⊢
    split
    · rfl
    · rename_i h1
      rw [if_neg h1] at h
      split
      · rename_i h2
        rw [if_pos h2] at h
        exact posG_two h
      · rename_i h2
        rw [if_neg h2] at h
        split
        · rename_i h3; rw [if_pos h3] at h; cases h
        · rename_i h3; rw [if_neg h3] at h; exact legPos_two h
theorem posF_t {l : List Stp} {t : Ra} (h : (posF l t).2 = true) : Trk l ∧ RK.Ok t ∧ posF l t = posG l t l.length 0 ∧ (posF l t).1.length = 2 := by
  unfold posF at h ⊢
  by_cases hc : isTrk l = true ∧ RK.Ok t
  · rw [if_pos hc] at h ⊢
    exact ⟨isTrk_t.1 hc.1, hc.2, rfl, posG_two h⟩
  · rw [if_neg hc] at h; cases h
theorem filter_take {l : List Stp} {n : Nat} (h : n < l.length) (f : Stp → Bool) : (l.take (n + 1)).filter f = (l.take n).filter f ++ (if f (g l n) = true then [g l n] else []) := by
  rw [← take_g h, List.filter_append]
  congr 1
  simp [List.filter_cons]
theorem flen (l : List Stp) (n : Nat) (f : Stp → Bool) : ((l.take n).filter f).length ≤ l.length := by
  have h1 := List.length_filter_le f (l.take n)
  rw [List.length_take] at h1
  omega
theorem f14_den (l : List Stp) (a b : Ra) : F14.den (l, ((a, ()), ((b, ()), ()))) = some (((cutF l a b).1, ((cutF l a b).2, ())), ()) := by
  rw [show F14.den = F14.d0 (F14.L0 big) from rfl]
  unfold F14.d0
  simp only
  rw [f10_den]; simp only [Option.bind_some]
  rw [f10_den]; simp only [Option.bind_some]
  have bad : ¬ ((posF l a).2 = true ∧ (posF l b).2 = true ∧ ¬ val b < val a) → cutF l a b = ([], false) := fun h => by
    unfold cutF; rw [if_neg (fun h' => h ⟨h'.1, h'.2.1, h'.2.2.1⟩)]
  by_cases h1 : (posF l a).2 = true
  · by_cases h2 : (posF l b).2 = true
    · obtain ⟨hT, oa, _, la⟩ := posF_t h1
      obtain ⟨_, ob, _, lb⟩ := posF_t h2
      rw [h1, h2, if_pos (show (!true) = false from rfl), if_pos (show (!true) = false from rfl), f17_den]
      simp only [Option.bind_some]
      by_cases h3 : val b < val a
      · rw [if_pos (by simpa using (cmp_n ob oa).2 h3), bad (fun h => h.2.2 h3)]
      · rw [if_neg (by simpa using fun h => h3 ((cmp_n ob oa).1 h)), if_pos (by simp; omega), if_pos (by simp; omega)]
        have e : cutF l a b = if isTrk (part0 l a b (posF l a).1 (posF l b).1) = true then (part0 l a b (posF l a).1 (posF l b).1, true) else ([], false) := by
          unfold cutF
          by_cases h4 : isTrk (part0 l a b (posF l a).1 (posF l b).1) = true
          · rw [if_pos (show (posF l a).2 = true ∧ (posF l b).2 = true ∧ ¬ val b < val a ∧ isTrk (part0 l a b (posF l a).1 (posF l b).1) = true from ⟨h1, h2, h3, h4⟩), if_pos h4]
          · rw [if_neg (show ¬ ((posF l a).2 = true ∧ (posF l b).2 = true ∧ ¬ val b < val a ∧ isTrk (part0 l a b (posF l a).1 (posF l b).1) = true) from fun h => h4 h.2.2.2), if_neg h4]
        rw [e]
        generalize (posF l a).1 = p at la
        generalize (posF l b).1 = q at lb
        clear e bad h1 h2
        refine itr_inv (B := F14.B0) (fun z : F14.X0 => l.length - z.2.2.2.2.2.2.1.toNat) (fun z => z.1.1 = a ∧ z.2.1.1 = b ∧ z.2.2.1 = q ∧ z.2.2.2.2.1 = l ∧ z.2.2.2.2.2.1 = l.length ∧ ∃ n : Nat, z.2.2.2.2.2.2.1 = n ∧ n ≤ l.length ∧ z.2.2.2.1 = [(a, (gr p 0, gr p 1))] ++ (l.take n).filter (btw a b))
          (fun z o => o = some (((if isTrk (part0 l a b p q) = true then (part0 l a b p q, true) else ([], false)).1, ((if isTrk (part0 l a b p q) = true then (part0 l a b p q, true) else ([], false)).2, ())), ())) ?_ big _
          ⟨rfl, rfl, rfl, rfl, rfl, 0, rfl, by omega, rfl⟩ (by simp only; unfold big; have := hT.2.1; omega)
        rintro ⟨⟨a', u1⟩, ⟨b', u2⟩, q', m, l', len, i, u3⟩ rec ⟨e1, e2, e3, e4, e5, n, e6, hn, e7⟩ ih
        simp only at e1 e2 e3 e4 e5 e6 e7 ih
        subst e1; subst e2; subst e3; subst e4; subst e5; subst e6; subst e7
        unfold F14.B0 F14.b0
        simp only
        have h6 := hT.2.1
        by_cases c : n < l'.length
        · rw [if_pos (by simp; omega), if_pos (by simp; omega)]
          simp only [Int.toNat_natCast]
          rw [show (gt (.pair (.pair (.int .i64) (.int .i64)) (.pair (.pair (.int .i64) (.int .i64)) (.pair (.int .i64) (.int .i64)))) l' n) = g l' n from rfl, f17_den]
          simp only [Option.bind_some]
          have hs : IntKind.wrap .i64 ((n : Int) + 1) = ((n + 1 : Nat) : Int) := by rw [wr (by omega) (by omega)]; omega
          have ok := (hT.ok c).1
          have hft := filter_take c (btw a' b')
          rw [hs]
          have go : ∀ m', m' = [(a', (gr p 0, gr p 1))] ++ (l'.take (n + 1)).filter (btw a' b') → rec ((a', ()), ((b', ()), (q', (m', (l', ((l'.length : Int), (((n + 1 : Nat) : Int), ()))))))) = _ := fun m' hm' =>
            ih _ ⟨rfl, rfl, rfl, rfl, rfl, n + 1, rfl, by omega, hm'⟩ (by first | omega | (simp only; omega))
          by_cases c1 : val a' < val (g l' n).1
          · rw [if_pos (by simpa using (cmp_p ok oa).2 c1), f17_den]
            simp only [Option.bind_some]
            by_cases c2 : val (g l' n).1 < val b'
            · rw [if_pos (by simpa using (cmp_n ok ob).2 c2), if_pos (by have := flen l' n (btw a' b'); simp only [decide_eq_true_eq, List.length_append, List.length_singleton]; unfold cap36; omega)]
              refine go _ ?_
              rw [hft, if_pos (by unfold btw; simp [c1, c2]), List.append_assoc]
            · rw [if_neg (by simpa using fun h => c2 ((cmp_n ok ob).1 h))]
              refine go _ ?_
              rw [hft, if_neg (by unfold btw; simp [c2]), List.append_nil]
          · rw [if_neg (by simpa using fun h => c1 ((cmp_p ok oa).1 h))]
            refine go _ ?_
            rw [hft, if_neg (by unfold btw; simp [c1]), List.append_nil]
        · rw [if_neg (by simp; omega), pair_beq]
          have : n = l'.length := by omega
          subst this
          rw [List.take_length]
          by_cases hab : b' = a'
          · rw [if_neg (by simp [hab]), f24_den]
            simp only [Option.bind_some]
            have ep : part0 l' a' b' p q' = [(a', (gr p 0, gr p 1))] ++ l'.filter (btw a' b') := by unfold part0; rw [if_pos hab, List.append_nil]
            rw [ep]
            by_cases ht : isTrk ([(a', (gr p 0, gr p 1))] ++ l'.filter (btw a' b')) = true
            · rw [ht]; rfl
            · rw [Bool.not_eq_true] at ht
              rw [ht]; rfl
          · have hfl := flen l' l'.length (btw a' b')
            rw [List.take_length] at hfl
            rw [if_pos (by simp [hab]), if_pos (by simp; omega), if_pos (by simp; omega), if_pos (by simp only [decide_eq_true_eq, List.length_append, List.length_singleton]; unfold cap36; omega)]
            have ep : part0 l' a' b' p q' = ([(a', (gr p 0, gr p 1))] ++ l'.filter (btw a' b')) ++ [(b', (gr q' 0, gr q' 1))] := by unfold part0; rw [if_neg hab]
            rw [ep]
            rw [show gt (.pair (.int .i64) (.int .i64)) q' (Int.toNat 0) = gr q' 0 from rfl, show gt (.pair (.int .i64) (.int .i64)) q' (Int.toNat 1) = gr q' 1 from rfl, f24_den]
            simp only [Option.bind_some]
            by_cases ht : isTrk (([(a', (gr p 0, gr p 1))] ++ l'.filter (btw a' b')) ++ [(b', (gr q' 0, gr q' 1))]) = true
            · rw [ht]; rfl
            · rw [Bool.not_eq_true] at ht
              rw [ht]; rfl
    · rw [bad (fun h => h2 h.2.1)]
      rw [Bool.not_eq_true] at h2
      rw [h1, h2]; rfl
  · rw [bad (fun h => h1 h.1)]
    rw [Bool.not_eq_true] at h1
    rw [h1]; rfl
theorem f15_den (l : List Stp) (a b : Ra) (hlen : l.length ≤ 1000) : F15.den (l, ((a, ()), ((b, ()), ()))) = some (((cutF l a b).1, ((cutF l a b).2, ())), ()) := by
  rw [show F15.den = F15.d0 (F15.L0 big) from rfl]
  unfold F15.d0
  simp only
  rw [f35_den _ _ hlen]; simp only [Option.bind_some]
  rw [f35_den _ _ hlen]; simp only [Option.bind_some]
  have bad : ¬ ((posF l a).2 = true ∧ (posF l b).2 = true ∧ ¬ val b < val a) → cutF l a b = ([], false) := fun h => by
    unfold cutF; rw [if_neg (fun h' => h ⟨h'.1, h'.2.1, h'.2.2.1⟩)]
  by_cases h1 : (posF l a).2 = true
  · by_cases h2 : (posF l b).2 = true
    · obtain ⟨hT, oa, _, la⟩ := posF_t h1
      obtain ⟨_, ob, _, lb⟩ := posF_t h2
      rw [h1, h2, if_pos (show (!true) = false from rfl), if_pos (show (!true) = false from rfl), f36_den _ _ ob oa]
      simp only [Option.bind_some]
      by_cases h3 : val b < val a
      · rw [if_pos (by simpa using h3), bad (fun h => h.2.2 h3)]
      · rw [if_neg (by simpa using h3), if_pos (by simp; omega), if_pos (by simp; omega)]
        have e : cutF l a b = if isTrk (part0 l a b (posF l a).1 (posF l b).1) = true then (part0 l a b (posF l a).1 (posF l b).1, true) else ([], false) := by
          unfold cutF
          by_cases h4 : isTrk (part0 l a b (posF l a).1 (posF l b).1) = true
          · rw [if_pos (show (posF l a).2 = true ∧ (posF l b).2 = true ∧ ¬ val b < val a ∧ isTrk (part0 l a b (posF l a).1 (posF l b).1) = true from ⟨h1, h2, h3, h4⟩), if_pos h4]
          · rw [if_neg (show ¬ ((posF l a).2 = true ∧ (posF l b).2 = true ∧ ¬ val b < val a ∧ isTrk (part0 l a b (posF l a).1 (posF l b).1) = true) from fun h => h4 h.2.2.2), if_neg h4]
        rw [e]
        generalize (posF l a).1 = p at la
        generalize (posF l b).1 = q at lb
        clear e bad h1 h2
        refine itr_inv (B := F15.B0) (fun z : F15.X0 => l.length - z.2.2.2.2.2.1.toNat) (fun z => z.1 = l ∧ z.2.1.1 = a ∧ z.2.2.1.1 = b ∧ z.2.2.2.1 = q ∧ ∃ n : Nat, z.2.2.2.2.2.1 = n ∧ n ≤ l.length ∧ z.2.2.2.2.1 = [(a, (gr p 0, gr p 1))] ++ (l.take n).filter (btw a b))
          (fun z o => o = some (((if isTrk (part0 l a b p q) = true then (part0 l a b p q, true) else ([], false)).1, ((if isTrk (part0 l a b p q) = true then (part0 l a b p q, true) else ([], false)).2, ())), ())) ?_ big _
          ⟨rfl, rfl, rfl, rfl, 0, rfl, by omega, rfl⟩ (by simp only; unfold big; omega)
        rintro ⟨l', ⟨a', u1⟩, ⟨b', u2⟩, q', m, i, u3⟩ rec ⟨e1, e2, e3, e4, n, e6, hn, e7⟩ ih
        simp only at e1 e2 e3 e4 e6 e7 ih
        subst e1; subst e2; subst e3; subst e4; subst e6; subst e7
        unfold F15.B0 F15.b0
        simp only
        by_cases c : n < l'.length
        · have hc : (decide (0 ≤ (n : Int)) && decide ((n : Int) < (l'.length : Int))) = true := by simp; omega
          rw [if_pos (by simp; omega), if_pos hc]
          simp only [Int.toNat_natCast]
          have ok := (hT.ok c).1
          rw [show (gt (.pair (.pair (.int .i64) (.int .i64)) (.pair (.pair (.int .i64) (.int .i64)) (.pair (.int .i64) (.int .i64)))) l' n) = g l' n from rfl, f36_den _ _ oa ok]
          simp only [Option.bind_some]
          have hs : IntKind.wrap .i64 ((n : Int) + 1) = ((n + 1 : Nat) : Int) := by rw [wr (by omega) (by omega)]; omega
          have hft := filter_take c (btw a' b')
          rw [hs]
          have go : ∀ m', m' = [(a', (gr p 0, gr p 1))] ++ (l'.take (n + 1)).filter (btw a' b') → rec (l', ((a', ()), ((b', ()), (q', (m', (((n + 1 : Nat) : Int), ())))))) = _ := fun m' hm' =>
            ih _ ⟨rfl, rfl, rfl, rfl, n + 1, rfl, by omega, hm'⟩ (by first | omega | (simp only; omega))
          by_cases c1 : val a' < val (g l' n).1
          · rw [if_pos (by simpa using c1), if_pos hc, f36_den _ _ ok ob]
            simp only [Option.bind_some]
            by_cases c2 : val (g l' n).1 < val b'
            · rw [if_pos (by simpa using c2), if_pos hc, if_pos (by have := flen l' n (btw a' b'); simp only [decide_eq_true_eq, List.length_append, List.length_singleton]; unfold cap36; omega)]
              refine go _ ?_
              rw [hft, if_pos (by unfold btw; simp [c1, c2]), List.append_assoc]
            · rw [if_neg (by simpa using c2)]
              refine go _ ?_
              rw [hft, if_neg (by unfold btw; simp [c2]), List.append_nil]
          · rw [if_neg (by simpa using c1)]
            refine go _ ?_
            rw [hft, if_neg (by unfold btw; simp [c1]), List.append_nil]
        · rw [if_neg (by simp; omega), pair_beq]
          have : n = l'.length := by omega
          subst this
          have hfl := flen l' l'.length (btw a' b')
          rw [List.take_length] at hfl ⊢
          by_cases hab : b' = a'
          · rw [if_neg (by simp [hab]), f26_den _ (by simp; omega)]
            simp only [Option.bind_some]
            have ep : part0 l' a' b' p q' = [(a', (gr p 0, gr p 1))] ++ l'.filter (btw a' b') := by unfold part0; rw [if_pos hab, List.append_nil]
            rw [ep]
            by_cases ht : isTrk ([(a', (gr p 0, gr p 1))] ++ l'.filter (btw a' b')) = true
            · rw [ht]; rfl
            · rw [Bool.not_eq_true] at ht
              rw [ht]; rfl
          · rw [if_pos (by simp; exact fun h => hab h.symm), if_pos (by simp; omega), if_pos (by simp; omega), if_pos (by simp only [decide_eq_true_eq, List.length_append, List.length_singleton]; unfold cap36; omega)]
            have ep : part0 l' a' b' p q' = ([(a', (gr p 0, gr p 1))] ++ l'.filter (btw a' b')) ++ [(b', (gr q' 0, gr q' 1))] := by unfold part0; rw [if_neg hab]
            rw [ep]
            rw [show gt (.pair (.int .i64) (.int .i64)) q' (Int.toNat 0) = gr q' 0 from rfl, show gt (.pair (.int .i64) (.int .i64)) q' (Int.toNat 1) = gr q' 1 from rfl, f26_den _ (by simp; omega)]
            simp only [Option.bind_some]
            by_cases ht : isTrk (([(a', (gr p 0, gr p 1))] ++ l'.filter (btw a' b')) ++ [(b', (gr q' 0, gr q' 1))]) = true
            · rw [ht]; rfl
            · rw [Bool.not_eq_true] at ht
              rw [ht]; rfl
    · rw [bad (fun h => h2 h.2.1)]
      rw [Bool.not_eq_true] at h2
      rw [h1, h2]; rfl
  · rw [bad (fun h => h1 h.1)]
    rw [Bool.not_eq_true] at h1
    rw [h1]; rfl
noncomputable def joinF (a b : List Stp) : List Stp × Bool :=
  if isTrk a = true ∧ isTrk b = true ∧ g a (a.length - 1) = g b 0 ∧ a.length + b.length - 1 ≤ 6 then (a ++ b.drop 1, true) else ([], false)
theorem f18_den (a b : List Stp) : F18.den (a, (b, ())) = some (((joinF a b).1, ((joinF a b).2, ())), ()) := by
  rw [show F18.den = F18.d0 from rfl]
  unfold F18.d0
  simp only
  rw [f24_den]; simp only [Option.bind_some]
  have bad : ¬ (isTrk a = true ∧ isTrk b = true ∧ g a (a.length - 1) = g b 0 ∧ a.length + b.length - 1 ≤ 6) → joinF a b = ([], false) := fun h => by unfold joinF; rw [if_neg h]
  by_cases h1 : isTrk a = true
  · rw [h1, if_pos (show (!true) = false from rfl), f24_den]; simp only [Option.bind_some]
    by_cases h2 : isTrk b = true
    · have t1 := isTrk_t.1 h1
      have t2 := isTrk_t.1 h2
      have b1 := t1.1; have b2 := t1.2.1; have b3 := t2.1; have b4 := t2.2.1
      have hp : IntKind.wrap .i64 ((a.length : Int) - 1) = ((a.length - 1 : Nat) : Int) := by rw [wr (by omega) (by omega)]; omega
      have hq : IntKind.wrap .i64 (IntKind.wrap .i64 ((a.length : Int) + (b.length : Int)) - 1) = ((a.length + b.length - 1 : Nat) : Int) := by rw [wr (n := (a.length : Int) + b.length) (by omega) (by omega), wr (by omega) (by omega)]; omega
      rw [h2, if_pos (show (!true) = false from rfl), hp, hq, if_pos (by simp; omega), if_pos (by simp; omega)]
      have hs : ∀ s s' : Stp, ((((s.1.1 : Int) == s'.1.1) && (((s.1.2 : Int) == s'.1.2) && true)) && ((((s.2.1.1 : Int) == s'.2.1.1) && (((s.2.1.2 : Int) == s'.2.1.2) && true)) && ((((s.2.2.1 : Int) == s'.2.2.1) && (((s.2.2.2 : Int) == s'.2.2.2) && true)) && true))) = decide (s = s') := fun s s' => by
        rw [pair_beq, pair_beq, pair_beq, Bool.eq_iff_iff]
        simp only [Bool.and_eq_true, decide_eq_true_eq, and_true]
        constructor
        · intro h; exact Prod.ext h.1 (Prod.ext h.2.1 h.2.2)
        · intro h; subst h; exact ⟨rfl, rfl, rfl⟩
      rw [hs]
      by_cases h3 : g a (a.length - 1) = g b 0
      · rw [if_pos (by show (!decide (g a (a.length - 1) = g b 0)) = false; simp [h3])]
        by_cases h4 : a.length + b.length - 1 ≤ 6
        · rw [if_neg (by simp only [decide_eq_true_eq]; omega), if_pos (by simp only [decide_eq_true_eq, List.length_nil]; unfold cap36; omega), if_pos (by simp; omega), if_pos (by simp only [decide_eq_true_eq, List.length_append, List.length_nil, List.length_drop]; unfold cap36; omega)]
          unfold joinF
          rw [if_pos (show isTrk a = true ∧ isTrk b = true ∧ g a (a.length - 1) = g b 0 ∧ a.length + b.length - 1 ≤ 6 from ⟨h1, h2, h3, h4⟩)]
          rfl
        · rw [if_pos (by simp only [decide_eq_true_eq]; omega), bad (fun h => h4 h.2.2.2)]
      · rw [if_neg (by show ¬ (!decide (g a (a.length - 1) = g b 0)) = false; simp [h3]), bad (fun h => h3 h.2.2.1)]
    · rw [bad (fun h => h2 h.2.1)]
      rw [Bool.not_eq_true] at h2
      rw [h2]; rfl
  · rw [bad (fun h => h1 h.1)]
    rw [Bool.not_eq_true] at h1
    rw [h1]; rfl
theorem f13_ends (code : List Int) (h : code.length ≤ 1048576) : Ends (F13.den (code, ())) fun y => y.1.1.length ≤ 4 := by
  rw [show F13.den = F13.d0 from rfl]
  unfold F13.d0
  refine (f19_ends code h).bind fun y1 h1 => (f20_ends h1).bind fun y2 ⟨h2, h3⟩ => (f23_ends h2 _).bind fun y3 ⟨_, _, h4⟩ => ?_
  rw [f22_den]
  refine (f23_ends h4 _).bind fun y5 _ => ?_
  rw [f22_den]
  exact Ends.ret h3
end Pl
end Go.Proofs.Ytjhcdndmbilogaa
