/-
  The engine, part 19: a region, in the text's order and in any order.
  CONDITIONS: those that each theorem names.
-/
import Derived.Test.YtjhcdndmbilogaaE18
namespace Go.Proofs.Ytjhcdndmbilogaa
namespace Eng
open Go Go.RowKit
set_option linter.unusedVariables false
set_option linter.unusedSimpArgs false

/-- The frame: so many slots, and some that nobody writes. -/
structure Fix where
  nt : Nat
  fp : List Nat
  V : Nat → Value
def TmpOk (N : Fix) (a : Act) : Prop := a.tmps.size = N.nt ∧ ∀ i ∈ N.fp, a.tmps.getD i undef = N.V i
/-- A slot that may be written. -/
def SlotOk (N : Fix) (d : Nat) : Prop := d < N.nt ∧ d ∉ N.fp
/-- A frame and a world as a state tells them. -/
def Rel (K : Ctx) (N : Fix) (s : FS) (a : Act) (w : World) : Prop :=
  ∃ E U, E.H = s.H ∧ WRel K E U w ∧ (∀ t, RepFV E w ((s.T t).getD .undef) (a.tmps.getD t undef)) ∧ (∀ o, U o → o < s.nid) ∧ a.defers = [] ∧ TmpOk N a

theorem put_getD {a : Act} {dst : Option Nat} {v : Value} {nt : Nat} (hs : a.tmps.size = nt) (hd : ∀ d, dst = some d → d < nt) (t : Nat) :
    (a.put dst v).tmps.getD t undef = if dst = some t then v else a.tmps.getD t undef := by
  cases dst with
  | none => simp [Act.put]
  | some d =>
    have := hd d rfl
    simp only [Act.put, Option.some.injEq, Array.getD_eq_getD_getElem?]
    by_cases h : d = t
    · subst h
      rw [if_pos rfl, Array.getElem?_setIfInBounds, if_pos rfl, if_pos (by omega)]
      rfl
    · rw [if_neg h, Array.getElem?_setIfInBounds_ne h]
theorem put_rest {a : Act} {dst : Option Nat} {v : Value} : (a.put dst v).defers = a.defers ∧ (a.put dst v).tmps.size = a.tmps.size := by
  cases dst <;> simp [Act.put]
theorem TmpOk.put {N : Fix} {a : Act} {dst : Option Nat} {v : Value} (h : TmpOk N a) (hd : ∀ d, dst = some d → SlotOk N d) : TmpOk N (a.put dst v) :=
  ⟨put_rest.2.trans h.1, fun i hi => by
    rw [put_getD h.1 (fun d e => (hd d e).1)]
    rw [if_neg (fun e => (hd i e).2 hi)]
    exact h.2 i hi⟩

section
variable {P : Program} {Δ : Tbl} {K : Ctx} {N : Fix} {ops : Array Oper} {Q : Exit → Act → World → Prop}

/-- All operations, one after the other. -/
theorem seq_ok (hΔ : TblOk P K.J K.G Δ) (hdst : ∀ o ∈ ops.toList, ∀ d, o.dst = some d → SlotOk N d) : ∀ (rest : List Oper) (k : Nat) {s sF : FS} {l : List Rec} {a : Act} {w : World}, Tr P Δ ops.toList rest s l sF → ops.toList.drop k = rest →
    Rel K N s a w → (∀ a w, Rel K N sF a w → Q .normal a w) → wpOps P ops Q (List.range' k rest.length) a w
  | [], k, s, sF, l, a, w, ht, hr, h, hQ => by
    obtain ⟨_, rfl⟩ := ht
    exact hQ a w h
  | o :: rest, k, s, sF, l, a, w, ht, hr, h, hQ => by
    obtain ⟨e, l', rfl, h1, h2⟩ := ht
    obtain ⟨E, U, hH, hW, hT, hU, hd, hsz⟩ := h
    have hk : ops.toList[k]? = some o := by
      have := congrArg (·[0]?) hr
      simpa using this
    have hk' : ops[k]? = some o := by rw [← Array.getElem?_toList]; exact hk
    have hrest : ops.toList.drop (k + 1) = rest := by
      rw [← List.drop_drop, hr]; rfl
    rw [List.length_cons, List.range'_succ, wpOps_cons]
    rw [← hH] at h1
    refine step1_ok hW (evOf_rep hT) (fun i hi hu => by have := hU _ hu; omega) hΔ hk' h1 (fun v w' hout => ?_)
    obtain ⟨E', g1, g2, g3, g4⟩ := hout
    refine seq_ok hΔ hdst rest (k + 1) h2 hrest ⟨E', _, by rw [g1, hH]; rfl, g3, fun t => ?_, fun x hx => ?_, put_rest.1.trans hd, hsz.put (fun d hd => hdst o (List.mem_of_getElem? hk) d hd)⟩ hQ
    · rw [put_getD hsz.1 (fun d hd => (hdst o (List.mem_of_getElem? hk) d hd).1)]
      show RepFV E' w' ((if o.dst = some t then some e.val else s.T t).getD .undef) _
      by_cases hc : o.dst = some t
      · rw [if_pos hc, if_pos hc]; exact g4
      · rw [if_neg hc, if_neg hc]; exact RepFV.mono g2 _ _ (hT t)
    · show x < s.nid + 64
      rcases hx with hx | hx
      · have := hU x hx; omega
      · omega
end

/-! ### Any order -/
def foldT (T0 : Nat → Option FV) (tr : List Rec) (S : Nat → Bool) : Nat → Nat → Option FV
  | 0, t => T0 t
  | m + 1, t => match tr[m]? with
    | some r => if S m = true ∧ r.dst = some t then some r.e.val else foldT T0 tr S m t
    | none => foldT T0 tr S m t
def touchH (r : Rec) (x : Nat) : Prop := (∃ ob, lookL r.e.put x = some ob) ∨ x ∈ r.e.del
def foldH (H0 : Hp) (tr : List Rec) (S : Nat → Bool) : Nat → Nat → Option Obj
  | 0, x => H0 x
  | m + 1, x => match tr[m]? with
    | some r => if S m = true then r.e.app (foldH H0 tr S m) x else foldH H0 tr S m x
    | none => foldH H0 tr S m x

theorem app_touch {e : Eff} {d : Option Nat} {H H' : Hp} {x : Nat} (h : touchH ⟨d, e⟩ x) : e.app H x = e.app H' x := by
  unfold Eff.app
  rcases h with ⟨ob, h⟩ | h
  · simp only at h; rw [h]
  · simp only at h
    cases lookL e.put x with
    | some ob => rfl
    | none => simp only; rw [if_pos h, if_pos h]
theorem app_not {e : Eff} {d : Option Nat} {H : Hp} {x : Nat} (h : ¬ touchH ⟨d, e⟩ x) : e.app H x = H x := by
  unfold touchH at h
  simp only [not_or, not_exists] at h
  unfold Eff.app
  cases hl : lookL e.put x with
  | some ob => exact absurd hl (h.1 ob)
  | none => simp only; rw [if_neg h.2]

theorem foldT_congr {T0 : Nat → Option FV} {tr : List Rec} {S S' : Nat → Bool} {t : Nat} : ∀ (m : Nat), (∀ k r, k < m → tr[k]? = some r → r.dst = some t → S k = S' k) → foldT T0 tr S m t = foldT T0 tr S' m t
  | 0, h => rfl
  | m + 1, h => by
    have ih := foldT_congr (T0 := T0) (S := S) (S' := S') m (fun k r hk => h k r (by omega))
    unfold foldT
    cases hr : tr[m]? with
    | none => exact ih
    | some r =>
      simp only
      by_cases hd : r.dst = some t
      · rw [h m r (by omega) hr hd, ih]
      · rw [if_neg (fun h => hd h.2), if_neg (fun h => hd h.2), ih]
theorem foldH_congr {H0 : Hp} {tr : List Rec} {S S' : Nat → Bool} {x : Nat} : ∀ (m : Nat), (∀ k r, k < m → tr[k]? = some r → touchH r x → S k = S' k) → foldH H0 tr S m x = foldH H0 tr S' m x
  | 0, h => rfl
  | m + 1, h => by
    have ih := foldH_congr (H0 := H0) (S := S) (S' := S') m (fun k r hk => h k r (by omega))
    unfold foldH
    cases hr : tr[m]? with
    | none => exact ih
    | some r =>
      simp only
      by_cases ht : touchH r x
      · rw [h m r (by omega) hr ht, ih, app_touch (d := r.dst) ht]
      · rw [app_not (d := r.dst) ht, app_not (d := r.dst) ht, ih]; simp

theorem foldT_cut {T0 : Nat → Option FV} {tr : List Rec} {t i : Nat} : ∀ (m : Nat), foldT T0 tr (fun k => decide (k < i)) (i + m) t = foldT T0 tr (fun _ => true) i t
  | 0 => foldT_congr i (fun k r hk _ _ => by simp [hk])
  | m + 1 => by
    rw [← Nat.add_assoc]
    have ih := foldT_cut (T0 := T0) (tr := tr) (t := t) (i := i) m
    conv => lhs; unfold foldT
    cases hr : tr[i + m]? with
    | none => exact ih
    | some r =>
      simp only
      rw [if_neg (by simp; omega)]
      exact ih
theorem foldH_cut {H0 : Hp} {tr : List Rec} {x i : Nat} : ∀ (m : Nat), foldH H0 tr (fun k => decide (k < i)) (i + m) x = foldH H0 tr (fun _ => true) i x
  | 0 => foldH_congr i (fun k r hk _ _ => by simp [hk])
  | m + 1 => by
    rw [← Nat.add_assoc]
    have ih := foldH_cut (H0 := H0) (tr := tr) (x := x) (i := i) m
    conv => lhs; unfold foldH
    cases hr : tr[i + m]? with
    | none => exact ih
    | some r =>
      simp only
      rw [if_neg (by simp)]
      exact ih

/-- One more is carried out: what it writes nobody behind it has written. -/
theorem foldT_add {T0 : Nat → Option FV} {tr : List Rec} {S S' : Nat → Bool} {i t : Nat} {r : Rec} (hr : tr[i]? = some r) (hSi : S i = false) (hS' : ∀ k, S' k = (S k || decide (k = i))) : ∀ (m : Nat),
    (∀ k r', i < k → k < m → tr[k]? = some r' → S k = true → r.dst = some t → r'.dst ≠ some t) → foldT T0 tr S' m t = if i < m ∧ r.dst = some t then some r.e.val else foldT T0 tr S m t
  | 0, _ => by simp [foldT]
  | m + 1, h => by
    have ih := foldT_add (T0 := T0) hr hSi hS' m (fun k r' h1 h2 => h k r' h1 (by omega))
    unfold foldT
    by_cases hm : m = i
    · subst hm
      rw [hr]
      simp only
      rw [hS' m, hSi]
      simp only [decide_true, Bool.or_true, true_and, Bool.false_eq_true, false_and, if_false]
      by_cases hd : r.dst = some t
      · rw [if_pos hd, if_pos ⟨by omega, hd⟩]
      · rw [if_neg hd, if_neg (fun h => hd h.2), ih, if_neg (fun h => hd h.2)]
    · cases hrm : tr[m]? with
      | none =>
        simp only
        have hiff : (i < m + 1) ↔ (i < m) := by omega
        rw [ih]
        simp only [hiff]
      | some r' =>
        simp only
        rw [hS' m]
        simp only [hm, decide_false, Bool.or_false]
        have hiff : (i < m + 1) ↔ (i < m) := by omega
        by_cases hc : S m = true ∧ r'.dst = some t
        · rw [if_pos hc, if_pos hc]
          by_cases hi : i < m + 1 ∧ r.dst = some t
          · exact absurd hc.2 (h m r' (by omega) (by omega) hrm hc.1 hi.2)
          · rw [if_neg hi]
        · rw [if_neg hc, if_neg hc, ih]
          simp only [hiff]
theorem foldH_add {H0 : Hp} {tr : List Rec} {S S' : Nat → Bool} {i x : Nat} {r : Rec} (hr : tr[i]? = some r) (hSi : S i = false) (hS' : ∀ k, S' k = (S k || decide (k = i))) : ∀ (m : Nat),
    (∀ k r', i < k → k < m → tr[k]? = some r' → S k = true → touchH r x → ¬ touchH r' x) → foldH H0 tr S' m x = if i < m then r.e.app (foldH H0 tr S m) x else foldH H0 tr S m x
  | 0, _ => by simp [foldH]
  | m + 1, h => by
    have ih := foldH_add (H0 := H0) hr hSi hS' m (fun k r' h1 h2 => h k r' h1 (by omega))
    by_cases ht : touchH r x
    · conv => lhs; unfold foldH
      by_cases hm : m = i
      · subst hm
        rw [hr]
        simp only
        rw [hS' m]
        simp only [decide_true, Bool.or_true, if_true]
        rw [if_pos (by omega)]
        exact app_touch (d := r.dst) ht
      · cases hrm : tr[m]? with
        | none =>
          simp only
          have h1 := (List.getElem?_eq_some_iff.1 hr).1
          rw [List.getElem?_eq_none_iff] at hrm
          have h2 : i < m := by omega
          rw [ih, if_pos h2, if_pos (by omega)]
          exact app_touch (d := r.dst) ht
        | some r' =>
          simp only
          rw [hS' m]
          simp only [hm, decide_false, Bool.or_false]
          by_cases hi : i < m
          · by_cases hc : S m = true
            · rw [if_pos hc, app_not (d := r'.dst) (h m r' hi (by omega) hrm hc ht), ih, if_pos hi, if_pos (by omega)]
              exact app_touch (d := r.dst) ht
            · rw [if_neg hc, ih, if_pos hi, if_pos (by omega)]
              exact app_touch (d := r.dst) ht
          · have hlt : ¬ i < m + 1 := by omega
            rw [if_neg hlt]
            conv => rhs; unfold foldH
            rw [hrm]
            simp only
            have hih : foldH H0 tr S' m x = foldH H0 tr S m x := by rw [ih, if_neg hi]
            by_cases ht' : touchH r' x
            · rw [app_touch (d := r'.dst) (H := foldH H0 tr S' m) (H' := foldH H0 tr S m) ht', hih]
            · rw [app_not (d := r'.dst) ht', app_not (d := r'.dst) ht', hih]
    · have e : ∀ H : Hp, r.e.app H x = H x := fun H => app_not (d := r.dst) ht
      rw [e]
      have : foldH H0 tr S' (m + 1) x = foldH H0 tr S (m + 1) x := foldH_congr _ (fun k r' hk hrk ht' => by
        rw [hS' k]
        by_cases hki : k = i
        · subst hki; rw [hr] at hrk; cases hrk; exact absurd ht' ht
        · simp [hki])
      rw [this]
      simp
end Eng
end Go.Proofs.Ytjhcdndmbilogaa
