/-
  Impl.ParseInt computes what PInt says, under the contract of strconv.Atoi.
  CONDITIONS: those that each theorem names.
-/
import Derived.Test.YtjhcdndmbilogaaDoorReadSpec
import Derived.Lib.AtoiTie
namespace Go.Proofs.YtjhcdndmbilogaaDoor
open Go.RowKit Go.Shelf
set_option linter.unusedVariables false
set_option linter.unusedSimpArgs false

/-- What strconv.Atoi gives. -/
def AtoiEnd (s : ByteArray) (e : Ending) : Prop :=
  (∃ v, Lib.atoiAll s.data.toList = .ok v ∧ e = .returned (.tuple #[.int .i64 v, .nilIface])) ∨
  ((∀ v, Lib.atoiAll s.data.toList ≠ .ok v) ∧ ∃ x t p, e = .returned (.tuple #[.int .i64 x, .iface t p]))
theorem atoi_txt {m : Int} (h0 : -400000000 ≤ m) (h1 : m ≤ 400000000) : Lib.atoiAll (Lib.itoa m) = .ok m := by
  rw [Lib.atoiAll_short _ (by have := itoa_len10 h0 h1; omega), atoi_itoa]
  rfl

set_option maxHeartbeats 1000000 in
theorem impl_ParseInt_not (s : ByteArray) (w : World) (ht : Tab w)
    (kA : Calls Tryd.prog 69 #[.string s] w fun e w' => AtoiEnd s e ∧ Below w.heap.size w w') (hat : ∀ v, Lib.atoiAll s.data.toList ≠ .ok v) :
    Calls Tryd.prog 35 #[.string s] w fun e w' => RetPI s e ∧ Below w.heap.size w w' := by
  have kA' : Calls Tryd.prog 69 #[.string s] w fun e w' => (∃ x t p, e = .returned (.tuple #[.int .i64 x, .iface t p])) ∧ Below w.heap.size w w' :=
    kA.mono fun e w' ⟨h, hb⟩ => by
      rcases h with ⟨v', h1, h2⟩ | ⟨_, h2⟩
      · exact absurd h1 (hat v')
      · exact ⟨h2, hb⟩
  have hy : Hid0 (PInt s 0 false) := ⟨.inr ⟨rfl, rfl, fun m h1 h2 hm => by
    subst hm
    rw [txt_list] at hat
    exact hat m (atoi_txt h1 h2)⟩⟩
  clear hat kA
  go_enter Tryd.func35, Tryd.ntmps35
  go_wp2_with (go_at_call 69; refine kA'.mono ?_; rintro e w1 ⟨⟨x, t, p, rfl⟩, hb1⟩)
  go_ret2
  exact ⟨⟨_, _, rfl, hy.out⟩, hb1⟩
set_option maxHeartbeats 1000000 in
theorem impl_ParseInt (s : ByteArray) (w : World) (ht : Tab w)
    (kA : Calls Tryd.prog 69 #[.string s] w fun e w' => AtoiEnd s e ∧ Below w.heap.size w w') :
    Calls Tryd.prog 35 #[.string s] w fun e w' => RetPI s e ∧ Below w.heap.size w w' := by
  cases hat : Lib.atoiAll s.data.toList with
  | ok v =>
    have kA' : Calls Tryd.prog 69 #[.string s] w fun e w' => e = .returned (.tuple #[.int .i64 v, .nilIface]) ∧ Below w.heap.size w w' :=
      kA.mono fun e w' ⟨h, hb⟩ => by
        rcases h with ⟨v', h1, h2⟩ | ⟨h1, _⟩
        · rw [hat] at h1
          injection h1 with h1
          subst h1
          exact ⟨h2, hb⟩
        · exact absurd hat (h1 v)
    have kN := impl_IsNumber v
    have hno : ¬ (isNum v = true ∧ txt v = s) → PInt s 0 false := fun hc => .inr ⟨rfl, rfl, fun m h1 h2 hm => by
      subst hm
      rw [txt_list, atoi_txt h1 h2] at hat
      injection hat with hat
      subst hat
      exact hc ⟨(isNum_iff _).mpr ⟨h1, h2⟩, rfl⟩⟩
    clear hat kA
    by_cases hnum : isNum v = true
    · have hr := (isNum_iff _).mp hnum
      rw [hnum] at kN
      have kF : ∀ w, Tab w → Calls Tryd.prog 30 #[.int .i64 v] w fun e w' => e = .returned (.string (txt v)) ∧ Below w.heap.size w w' := impl_FormatInt v (by omega) (by omega)
      have hyes : txt v = s → PInt s v true := fun h => PInt.some_of hr.1 hr.2 h
      obtain ⟨T, hT⟩ : ∃ T, txt v = T := ⟨_, rfl⟩
      rw [hT] at kF hno hyes
      clear hT hr
      by_cases hTs : T = s
      · have e2 : (T.toList == s.toList) = true := by rw [hTs]; exact beq_self_eq_true _
        have hy := Hid0.mk (hyes hTs)
        clear hyes hno hTs hnum
        go_enter Tryd.func35, Tryd.ntmps35
        go_wp2_with (first | (go_at_call 69; refine kA'.mono ?_; rintro e w1 ⟨rfl, hb1⟩) | (go_at_call 70; refine (kN _).mono ?_; rintro e w1 ⟨rfl, rfl⟩) | (go_at_call 30; refine (kF _ (tab_below ht hb1)).mono ?_; rintro e w2 ⟨rfl, hb2⟩))
        go_ret2
        exact ⟨⟨_, _, rfl, hy.out⟩, hb1.trans (hb2.mono hb1.size)⟩
      · have e2 : (T.toList == s.toList) = false := text_ne hTs
        have hy := Hid0.mk (hno (fun h => hTs h.2))
        clear hyes hno hTs hnum
        go_enter Tryd.func35, Tryd.ntmps35
        go_wp2_with (first | (go_at_call 69; refine kA'.mono ?_; rintro e w1 ⟨rfl, hb1⟩) | (go_at_call 70; refine (kN _).mono ?_; rintro e w1 ⟨rfl, rfl⟩) | (go_at_call 30; refine (kF _ (tab_below ht hb1)).mono ?_; rintro e w2 ⟨rfl, hb2⟩))
        go_ret2
        exact ⟨⟨_, _, rfl, hy.out⟩, hb1.trans (hb2.mono hb1.size)⟩
    · have hy := Hid0.mk (hno (fun h => hnum h.1))
      rw [Bool.eq_false_iff.mpr hnum] at kN
      clear hno hnum
      go_enter Tryd.func35, Tryd.ntmps35
      go_wp2_with (first | (go_at_call 69; refine kA'.mono ?_; rintro e w1 ⟨rfl, hb1⟩) | (go_at_call 70; refine (kN _).mono ?_; rintro e w1 ⟨rfl, rfl⟩))
      go_ret2
      exact ⟨⟨_, _, rfl, hy.out⟩, hb1⟩
  | _ => exact impl_ParseInt_not s w ht kA (fun v h => by rw [hat] at h; cases h)
end Go.Proofs.YtjhcdndmbilogaaDoor
