/-
  Laws.FnExactReadEntry returns true.
  CONDITIONS: those that each theorem names.
-/
import Derived.Test.YtjhcdndmbilogaaDoorReadImpl
namespace Go.Proofs.YtjhcdndmbilogaaDoor
open Go.RowKit Go.Shelf
set_option linter.unusedVariables false
set_option linter.unusedSimpArgs false
theorem RE.total (s : ByteArray) : ∃ n x o, RE s n x o := by
  by_cases h : ∃ f l, Two s f l
  · obtain ⟨f, l, h⟩ := h
    obtain ⟨m, b, hp⟩ := PInt.total (s.extract 0 f)
    by_cases hE : b = true ∧ entryOf m (s.extract (f + 1) l) = s
    · exact ⟨_, _, _, .inr ⟨f, l, m, b, h, hp, .inl ⟨hE.1, hE.2, rfl, rfl, rfl⟩⟩⟩
    · exact ⟨_, _, _, .inr ⟨f, l, m, b, h, hp, .inr ⟨hE, rfl, rfl, rfl⟩⟩⟩
  · exact ⟨_, _, _, .inl ⟨h, rfl, rfl, rfl⟩⟩
set_option maxHeartbeats 1000000 in
set_option maxRecDepth 100000 in
theorem law_ReadEntry (s : ByteArray) (w : World) (J : World → Prop) (hJ : ∀ w w', J w → Below w.heap.size w w' → J w') (hT : ∀ w, J w → Tab w) (hj : J w)
    (kA : ∀ (x : ByteArray) w, x.size ≤ s.size → s.size ≤ 1048576 → J w → Calls Tryd.prog 69 #[.string x] w fun e w' => AtoiEnd x e ∧ Below w.heap.size w w')
    (kL : s.size ≤ 1048576 → ∀ w, Calls Tryd.prog 34 #[.string s, .int .u8 58] w fun e w' => e = .returned (.int .i64 (Lib.lastIndexByte s 58)) ∧ w' = w) :
    Calls Tryd.prog 4 #[.string s] w fun e w' => e = .returned (.bool true) ∧ Below w.heap.size w w' := by
  by_cases hbig : 1048576 < s.size
  · have c1 : decide (1048576 < (s.size : Int)) = true := decide_eq_true (by omega)
    have c2 : 1048576 < (s.size : Int) := by omega
    go_enter Tryd.func4, Tryd.ntmps4
    go_wp2
    go_ret
    exact ⟨rfl, Below.refl _ _⟩
  · have c1 : decide (1048576 < (s.size : Int)) = false := decide_eq_false (by omega)
    have c2 : ¬ 1048576 < (s.size : Int) := by omega
    have hsz : s.size ≤ 1048576 := by omega
    obtain ⟨n, x, o, kS, kI⟩ : ∃ n x o, (Calls Tryd.prog 9 #[.string s] w fun e w' => e = .returned (.tuple #[.int .i64 n, .string x, .bool o]) ∧ Below w.heap.size w w') ∧
        (∀ w, J w → Calls Tryd.prog 10 #[.string s] w fun e w' => e = .returned (.tuple #[.int .i64 n, .string x, .bool o]) ∧ Below w.heap.size w w') := by
      obtain ⟨n, x, o, hre⟩ := RE.total s
      refine ⟨n, x, o, (spec_ReadEntry s (by omega) w).mono fun e w' ⟨⟨n', x', o', he, h⟩, hb⟩ => ?_, fun w hj => (impl_ReadEntry s (by omega) w (hT w hj) (fun x hx => kA x w hx hsz hj) (kL hsz)).mono fun e w' ⟨⟨n', x', o', he, h⟩, hb⟩ => ?_⟩
      · obtain ⟨rfl, rfl, rfl⟩ := h.unique hre; exact ⟨he, hb⟩
      · obtain ⟨rfl, rfl, rfl⟩ := h.unique hre; exact ⟨he, hb⟩
    clear kA kL
    go_enter Tryd.func4, Tryd.ntmps4
    go_wp2_with (first | (go_at_call 9; refine kS.mono ?_; rintro e w1 ⟨rfl, hb1⟩) | (go_at_call 10; refine (kI _ (hJ _ _ hj hb1)).mono ?_; rintro e w2 ⟨rfl, hb2⟩))
    go_ret
    exact ⟨rfl, hb1.trans (hb2.mono hb1.size)⟩
end Go.Proofs.YtjhcdndmbilogaaDoor
