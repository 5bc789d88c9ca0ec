/-
  Laws.FnMoved: the row: for every input the law returns true, and the argument reads as before.
  CONDITIONS: those that each theorem names.
-/
import Derived.Test.YtjhcdndmbilogaaM6
import Derived.Test.YtjhcdndmbilogaaRows
import Derived.WalkKit
import Derived.ProofKit
import Derived.OpenShut
import Derived.ChangeOld
import Derived.ChangeSlices
import Derived.Below
import Derived.SizedLaws
set_option linter.unusedVariables false
set_option linter.unusedSimpArgs false
namespace Go.Proofs.Ytjhcdndmbilogaa
open Go.ChangeShapes Go.WideShapes Go.RowKit Eng
theorem own : ownKnob Try.prog.godebug = none := by kernel_rfl
theorem laidOut : laidOutB Try.prog = true := by kernel_rfl
theorem cells5 : Try.prog.cellsOf 5 = 1 := by kernel_rfl

/-- A law of one slice of bytes, which is true for all bytes, returns true, and what was there stays. -/
theorem law_calls {f : FuncId} {den : HP [.c (.dat (.sl (.int .u8)))] → Option (HP [.c (.dat .bool)] × HP (outsP [.c (.dat (.sl (.int .u8)))]))}
    (con : Con Try.prog (fun _ => True) 0 f [.c (.dat (.sl (.int .u8)))] [.c (.dat .bool)] den) (ht : ∀ code : List Int, den (code, ()) = some ((true, ()), ())) (W : World) (p : Option Addr) (len cap : Nat) (zs : List Int)
    (hz : zs.length = len) (hp : zs = [] ∨ ∃ b off, p = some ⟨b, off, none⟩ ∧ len ≤ cap ∧ ∀ i, i < len → b < W.heap.size ∧ W.cell? ⟨b, off + i, none⟩ = some (.int .u8 (zs.getD i 0))) :
    Calls Try.prog f #[.slice p len cap] W fun e w' => e = .returned (.bool true) ∧ Below W.heap.size W w' := by
  have hsem : SemPs (fun b _ => b < W.heap.size) W [.c (.dat (.sl (.int .u8)))] (zs, ()) [.slice p len cap] [] := by
    refine ⟨_, [], [], [], rfl, rfl, ?_, rfl, rfl⟩
    refine ⟨?_, rfl⟩
    unfold RepT
    refine ⟨p, cap, by rw [hz], ?_⟩
    rcases hp with h | ⟨b, off, e, hl, hc⟩
    · exact .inl h
    · refine .inr ⟨b, off, e, by rw [hz]; exact hl, fun i x hx => ?_⟩
      have hi : i < zs.length := (List.getElem?_eq_some_iff.1 hx).1
      obtain ⟨h1, h2⟩ := hc i (by omega)
      refine ⟨[.int .u8 x], by unfold RepT; rfl, fun j u hj => ?_⟩
      have hj0 : j = 0 := by
        have := (List.getElem?_eq_some_iff.1 hj).1
        simp at this; exact this
      subst hj0
      simp only [List.getElem?_cons_zero, Option.some.injEq] at hj
      subst hj
      refine ⟨h1, ?_⟩
      have e1 : zs.getD i 0 = x := by simp [List.getD, hx]
      rw [e1] at h2
      have e2 : off + (i * (Ty.int .u8).size + 0) = off + i := by simp [Ty.size]
      rw [e2]; exact h2
  have hcall := con.ok _ _ (ht zs) W (fun b _ => b < W.heap.size) [.slice p len cap] [] (fun _ _ _ h => h) trivial (by omega) hsem ⟨fun i j b off off' h => by simp at h, fun i b off h => by simp at h⟩ (fun b y h => h)
  refine hcall.mono ?_
  rintro e w' ⟨v, rvals, Z', pl1, pl2, rfl, hret, _, _, _, _, hfr, _, hs, _, _, _⟩
  obtain ⟨v1, vs', p1, p2, rfl, _, ⟨h1, _⟩, h2, _⟩ := hs
  unfold RepT at h1
  cases h1
  cases h2
  have hv : v = .bool true := by simpa [Ret] using hret.symm
  subst hv
  exact ⟨rfl, hfr.below (fun b h => by obtain ⟨_, h⟩ := h; simp at h)⟩
set_option maxRecDepth 100000 in
theorem moved_lifted (os : Os) (started : os.Started) (H : Type) (enc : TypeId × Value → H) :
    ReturnsInHanded {} Try.checked os 3 .any (Rows.fnMovedSpec.pre6 enc Try.prog Try.f3 Rows.fnMovedRow.domain false) (Rows.fnMovedSpec.post enc Try.prog Try.f3 false true false false) := by
  refine returnsInHanded_of_change (C := Try.checked) own started (by kernel_rfl) Try.func3
    (ChangeSpec.witness6 (enc := enc) (C := Try.checked) false ⟨#[], #[.slice none 0 0], []⟩ 8 (by kernel_rfl) (by kernel_rfl) (by kernel_rfl) (by kernel_rfl)) ?_
  intro W base args ds gs before hval0 hW _ _
  have hval : ∀ (j : Nat) t v, Try.f3.params[j]? = some t → args[j]? = some v → Value.okWide Try.prog W .any base t v := hval0
  have hW' := hW
  obtain ⟨p, q, hA0, hV, rfl, _, _⟩ := hW
  have hA : DataW.TrodAll enc Try.prog W 0 (fun _ => true) true Try.f3.params.toList args.toList ds p := hA0
  rw [Try.params3] at hA hval
  obtain ⟨v0, d0, rfl, rfl, h0⟩ := trodAll_one hA
  obtain ⟨rfl, rfl⟩ := trodVars_none hV
  have h0k := h0
  obtain ⟨fuel, hf⟩ := h0
  clear hA0 hval0
  simp only [List.append_nil] at hW'
  have hlt : ∀ x ∈ p, x.block < W.heap.size := fun x hx => by simpa using hW'.lt x hx
  have hargs : ∀ W', Below W.heap.size W W' → DataW.Trod enc Try.prog W' 0 (fun b => decide (b < W.heap.size)) true 22 v0 d0 p := fun W' hB =>
    Below.trod laidOut (by kernel_rfl) (of_decide_eq_true (by kernel_rfl)) h0k hB hlt
  obtain ⟨a0, len, cap, rfl⟩ := okWide_slice Try.underlying22 (hval 0 22 v0 rfl rfl)
  rcases open_ints Try.underlying22 Try.underlying5 cells5 hf with ⟨hcs, hx⟩ | ⟨a, len', cap', zs, hcs, _, hl, hm, hz, hx, hcell, hwz⟩
  · simp [Value.cells] at hcs
    obtain ⟨rfl, rfl, rfl⟩ := hcs
    simp only [Prod.mk.injEq] at hx
    obtain ⟨rfl, rfl⟩ := hx
    refine (law_calls (Pl.F3.ok) Pl.f3_den W none 0 0 [] rfl (.inl rfl)).mono fun e W' ⟨he, hB⟩ => ?_
    subst he
    exact ⟨_, rfl, ⟨_, _, _, [], _, [], hW', trodAll_mk1 (shut_bool Try.underlying4 _), trodAll_mk1 (hargs _ hB), rfl, hB.frame _, fun h => by cases h⟩⟩
  · simp [Value.cells] at hcs
    obtain ⟨rfl, rfl, rfl⟩ := hcs
    simp only [Prod.mk.injEq] at hx
    obtain ⟨rfl, rfl⟩ := hx
    simp only [if_true] at hz
    have hp : zs.take len = [] ∨ ∃ b off, some a = some ⟨b, off, none⟩ ∧ len ≤ cap ∧ ∀ i, i < len → b < W.heap.size ∧ W.cell? ⟨b, off + i, none⟩ = some (.int .u8 ((zs.take len).getD i 0)) := by
      by_cases h0 : len = 0
      · subst h0; exact .inl (by simp)
      · obtain ⟨b, off, spot⟩ := a
        have hspot : spot = none := by simpa [Addr.add] using World.cell?_spot (hcell 0 (by omega))
        subst hspot
        refine .inr ⟨b, off, rfl, hl, fun i hi => ⟨hlt (.cell b off) (MemPlace.mem_row.2 ⟨0, by omega, by simp⟩), ?_⟩⟩
        have := hcell i (by omega)
        rw [show (⟨b, off, none⟩ : Addr).add i = ⟨b, off + i, none⟩ by unfold Addr.add; split <;> simp_all] at this
        have e : (zs.take len).getD i 0 = zs.getD i 0 := by simp [List.getD, List.getElem?_take, hi]
        rw [e]
        exact this
    refine (law_calls (Pl.F3.ok) Pl.f3_den W (some a) len cap (zs.take len) (by simp; omega) hp).mono fun e W' ⟨he, hB⟩ => ?_
    subst he
    exact ⟨_, rfl, ⟨_, _, _, [], _, [], hW', trodAll_mk1 (shut_bool Try.underlying4 _), trodAll_mk1 (hargs _ hB), rfl, hB.frame _, fun h => by cases h⟩⟩
theorem moved_row : Rows.FnMovedSaid :=
  OpenClaim.holds_of_wide 3 Try.f3 rfl rfl rfl rfl rfl rfl rfl ⟨rfl, rfl, rfl, rfl, rfl⟩ rfl rfl rfl rfl rfl (by kernel_rfl) Try.func3 (by kernel_rfl)
    (of_decide_eq_true (by kernel_rfl)) (by unfold Func.isWrapper; first | (rw [if_pos (by decide +kernel)]; kernel_rfl) | (rw [if_neg (by decide +kernel)]; exact ⟨rfl, rfl⟩))
    (fun os started H enc _ => moved_lifted os started H enc)
#print axioms moved_row
end Go.Proofs.Ytjhcdndmbilogaa
