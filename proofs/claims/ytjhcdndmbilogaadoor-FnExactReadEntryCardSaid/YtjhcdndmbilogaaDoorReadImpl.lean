/-
  Impl.ReadEntry gives what RE says.
  CONDITIONS: those that each theorem names.
-/
import Derived.Test.YtjhcdndmbilogaaDoorReadPlaces
namespace Go.Proofs.YtjhcdndmbilogaaDoor
open Go.RowKit Go.Shelf
set_option linter.unusedVariables false
set_option linter.unusedSimpArgs false
set_option maxHeartbeats 1000000 in
set_option maxRecDepth 100000 in
theorem impl_ReadEntry (s : ByteArray) (hs : s.size ≤ 4000000000) (w : World) (ht : Tab w)
    (kA : ∀ x : ByteArray, x.size ≤ s.size → Calls Tryd.prog 69 #[.string x] w fun e w' => AtoiEnd x e ∧ Below w.heap.size w w')
    (kL : ∀ w, Calls Tryd.prog 34 #[.string s, .int .u8 58] w fun e w' => e = .returned (.int .i64 (Lib.lastIndexByte s 58)) ∧ w' = w) :
    Calls Tryd.prog 10 #[.string s] w fun e w' => RetRE s e ∧ Below w.heap.size w w' := by
  have kI : ∀ w, Calls Tryd.prog 33 #[.string s, .int .u8 58] w fun e w' => e = .returned (.int .i64 (Lib.indexByte s.data.toList 58)) ∧ w' = w := fun w => Tryd.strings_IndexByte s 58 w
  rcases places s with ⟨hno, hx⟩ | ⟨f, l, htwo, hf, hl⟩
  · have hre : Hid0 (RE s 0 ⟨#[]⟩ false) := ⟨.inl ⟨hno, rfl, rfl, rfl⟩⟩
    generalize Lib.indexByte s.data.toList 58 = F at kI hx
    generalize Lib.lastIndexByte s 58 = G at kL hx
    clear hno
    rcases hx with hx | ⟨hx1, hx2⟩
    · subst hx
      go_enter Tryd.func10, Tryd.ntmps10
      go_wp2_with (first | (go_at_call 33; refine (kI _).mono ?_; rintro e w1 ⟨rfl, rfl⟩) | (go_at_call 34; refine (kL _).mono ?_; rintro e w1 ⟨rfl, rfl⟩))
      go_ret3
      exact ⟨⟨_, _, _, rfl, hre.out⟩, Below.refl _ _⟩
    · subst hx2
      have c1 : decide (F < 0) = false := decide_eq_false (by omega)
      have c2 : ¬ F < 0 := by omega
      go_enter Tryd.func10, Tryd.ntmps10
      go_wp2_with (first | (go_at_call 33; refine (kI _).mono ?_; rintro e w1 ⟨rfl, rfl⟩) | (go_at_call 34; refine (kL _).mono ?_; rintro e w1 ⟨rfl, rfl⟩))
      go_ret3
      exact ⟨⟨_, _, _, rfl, hre.out⟩, Below.refl _ _⟩
  · obtain ⟨m, b, hp⟩ := PInt.total (s.extract 0 f)
    have hfl := htwo.lt
    have hls := htwo.size
    have kP : Calls Tryd.prog 35 #[.string (s.extract 0 f)] w fun e w' => e = .returned (.tuple #[.int .i64 m, .bool b]) ∧ Below w.heap.size w w' :=
      (impl_ParseInt (s.extract 0 f) w ht (kA _ (by rw [ByteArray.size_extract]; omega))).mono fun e w' ⟨⟨m', b', he, hp'⟩, hw⟩ => by
        obtain ⟨rfl, rfl⟩ := hp'.unique hp
        exact ⟨he, hw⟩
    have kE : ∀ w, Tab w → Calls Tryd.prog 8 #[.int .i64 m, .string (s.extract (f + 1) l)] w fun e w' => e = .returned (.string (entryOf m (s.extract (f + 1) l))) ∧ Below w.heap.size w w' := fun w ht => by
      unfold entryOf
      by_cases h : 0 ≤ m ∧ m ≤ 40 ∧ (s.extract (f + 1) l).size ≤ 2000
      · rw [if_pos h]; exact impl_EntryOf_in m _ h.1 h.2.1 h.2.2 w ht
      · rw [if_neg h]; exact impl_EntryOf_out m _ h w
    have hre : Hid0 ((b = true ∧ entryOf m (s.extract (f + 1) l) = s → RE s m (s.extract (f + 1) l) true) ∧ (¬ (b = true ∧ entryOf m (s.extract (f + 1) l) = s) → RE s 0 ⟨#[]⟩ false)) :=
      ⟨⟨fun hE => .inr ⟨f, l, m, b, htwo, hp, .inl ⟨hE.1, hE.2, rfl, rfl, rfl⟩⟩, fun hE => .inr ⟨f, l, m, b, htwo, hp, .inr ⟨hE, rfl, rfl, rfl⟩⟩⟩⟩
    rw [hf] at kI
    rw [hl] at kL
    have d0 : ¬ (f : Int) < 0 := by omega
    have d1 : ((f : Int) == (l : Int)) = false := beq_eq_false_iff_ne.mpr (by omega)
    have d1' : ¬ f = l := by omega
    have d2 : (0 ≤ (f : Int) + 1) = True := eq_true (by omega)
    have d3 : ((f : Int) + 1 ≤ (l : Int)) = True := eq_true (by omega)
    have d4 : ((l : Int) ≤ (s.size : Int)) = True := eq_true (by omega)
    have d5 : ((f : Int) + 1).toNat = f + 1 := by omega
    have d6 : ((f : Int) ≤ (s.size : Int)) = True := eq_true (by omega)
    have d7 : (0 ≤ (f : Int)) = True := eq_true (by omega)
    clear htwo hp hf hl kA
    cases b with
    | false =>
      have hre' := Hid0.mk (hre.out.2 (fun h => by cases h.1))
      clear hre kE
      go_enter Tryd.func10, Tryd.ntmps10
      go_wp2_with (first | (go_at_call 33; refine (kI _).mono ?_; rintro e w1 ⟨rfl, rfl⟩) | (go_at_call 34; refine (kL _).mono ?_; rintro e w1 ⟨rfl, rfl⟩) | (go_at_call 35; refine kP.mono ?_; rintro e w1 ⟨rfl, hb1⟩))
      go_ret3
      exact ⟨⟨_, _, _, rfl, hre'.out⟩, hb1⟩
    | true =>
      by_cases hE : entryOf m (s.extract (f + 1) l) = s
      · have e2 : ((entryOf m (s.extract (f + 1) l)).toList == s.toList) = true := by rw [hE]; exact beq_self_eq_true _
        have hre' := Hid0.mk (hre.out.1 ⟨rfl, hE⟩)
        clear hre hE
        generalize entryOf m (s.extract (f + 1) l) = E at kE e2
        go_enter Tryd.func10, Tryd.ntmps10
        go_wp2_with (first | (go_at_call 33; refine (kI _).mono ?_; rintro e w1 ⟨rfl, rfl⟩) | (go_at_call 34; refine (kL _).mono ?_; rintro e w1 ⟨rfl, rfl⟩) | (go_at_call 35; refine kP.mono ?_; rintro e w1 ⟨rfl, hb1⟩) | (go_at_call 8; refine (kE _ (tab_below ht hb1)).mono ?_; rintro e w2 ⟨rfl, hb2⟩))
        go_ret3
        exact ⟨⟨_, _, _, rfl, hre'.out⟩, hb1.trans (hb2.mono hb1.size)⟩
      · have e2 : ((entryOf m (s.extract (f + 1) l)).toList == s.toList) = false := text_ne hE
        have hre' := Hid0.mk (hre.out.2 (fun h => hE h.2))
        clear hre hE
        generalize entryOf m (s.extract (f + 1) l) = E at kE e2
        go_enter Tryd.func10, Tryd.ntmps10
        go_wp2_with (first | (go_at_call 33; refine (kI _).mono ?_; rintro e w1 ⟨rfl, rfl⟩) | (go_at_call 34; refine (kL _).mono ?_; rintro e w1 ⟨rfl, rfl⟩) | (go_at_call 35; refine kP.mono ?_; rintro e w1 ⟨rfl, hb1⟩) | (go_at_call 8; refine (kE _ (tab_below ht hb1)).mono ?_; rintro e w2 ⟨rfl, hb2⟩))
        go_ret3
        exact ⟨⟨_, _, _, rfl, hre'.out⟩, hb1.trans (hb2.mono hb1.size)⟩
end Go.Proofs.YtjhcdndmbilogaaDoor
