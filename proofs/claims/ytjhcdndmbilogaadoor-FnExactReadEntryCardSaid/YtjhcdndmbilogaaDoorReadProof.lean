/-
  laws.FnExactReadEntry: THE TIED CARD: for every int and every string the law returns true, and each argument reads behind the call as it read before.
  CONDITIONS: none of mine; the card ties the three listed tables of the library to the program's text.
-/
import Derived.Test.YtjhcdndmbilogaaDoorReadLaid
import Derived.Test.YtjhcdndmbilogaaDoorRows
import Derived.Test.YtjhcdndmbilogaaDoorCards
import Derived.Test.YtjhcdndmbilogaaDoorTie
import Derived.WalkKit
import Derived.ProofKit
import Derived.OpenShut
import Derived.ShutString
import Derived.ChangeOld
import Derived.Below
import Derived.SizedLaws
import Derived.Lay
import Derived.LaidSub
import Derived.Handed
import Derived.Lib.LaidTab
import Derived.SevenTiedAt
namespace Go.Proofs.YtjhcdndmbilogaaDoor
open Go.ChangeShapes Go.WideShapes Go.ChangeAt Go.RowKit
open Go.ChangeMaps (open_string shut_string)
set_option linter.unusedVariables false
theorem own : ownKnob Tryd.prog.godebug = none := by kernel_rfl
theorem laidOut : laidOutB Tryd.prog = true := by kernel_rfl
theorem tab_of_laid {l : List (String × DataW Unit)} {W : World} (h : laidMet Tryd.prog l W)
    (hl : l.filter (fun x => x.1 == "internal/strconv.uint64pow10") = [("internal/strconv.uint64pow10", Rows.laid_internal_strconv_uint64pow10)]) : Tab W := by
  have h1 := laidMet.filter (fun x => x.1 == "internal/strconv.uint64pow10") h
  rw [hl] at h1
  exact Lib.tabIs_of_head (k := .u64) (zs := Lib.pow10Tab) (rest := []) (g := 3) (t := 175) (e := 163) (n := 20) (by kernel_rfl) (by kernel_rfl) Tryd.underlying175 Tryd.underlying163 (by kernel_rfl) (by kernel_rfl) h1
open Go.Shelf in
theorem kA {s : ByteArray} (x : ByteArray) (w : World) (h1 : x.size ≤ s.size) (h2 : s.size ≤ 1048576) (h3 : Good w) :
    Calls Tryd.prog 69 #[.string x] w fun e w' => AtoiEnd x e ∧ Below w.heap.size w w' := by
  generalize hat : Lib.atoiAll x.data.toList = r
  rcases r with v | _ | _
  · refine (Tryd.strconv_Atoi_ok x (by omega) v hat w).mono fun e w' h => ?_
    obtain ⟨he, hw⟩ := h
    refine ⟨.inl ⟨v, hat, he⟩, ?_⟩
    rcases hw with rfl | ⟨t, rfl⟩
    · exact Below.refl _ _
    · exact Lib.bytesWorld_below w _ _
  · obtain ⟨tp, p, hv⟩ := h3.es
    refine (Any.strconv_Atoi_syntax_var Tryd.laysC172 x (by omega) hat tp p w hv).mono fun e w' h => ?_
    obtain ⟨N, he, _, _, hb⟩ := h
    exact ⟨.inr ⟨fun v hv => (by rw [hat] at hv; cases hv), _, _, _, he⟩, hb⟩
  · obtain ⟨tp, p, hv⟩ := h3.er
    refine (Tryd.strconv_Atoi_range_var x (by omega) hat tp p w hv).mono fun e w' h => ?_
    obtain ⟨N, he, _, _, hb⟩ := h
    exact ⟨.inr ⟨fun v hv => (by rw [hat] at hv; cases hv), _, _, _, he⟩, hb⟩
set_option maxRecDepth 100000 in
theorem read_lifted (os : Os) (started : os.Started) (H : Type) (enc : TypeId × Value → H) :
    ReturnsInHanded {} Tryd.checked os 4 .any (fun w args => (Rows.fnExactReadEntrySpec.pre enc Tryd.prog Tryd.f4 Rows.fnExactReadEntryRow.domain false w args ∧ laidMet Tryd.prog Rows.fnExactReadEntryRow.laid w) ∧ sizedMet enc Tryd.prog Tryd.f4 (OpenSpec.ofChange Rows.fnExactReadEntrySpec) false w args)
      (Rows.fnExactReadEntrySpec.post enc Tryd.prog Tryd.f4 false true false false) := by
  refine returnsInHanded_of_change_and (C := Tryd.checked) (X := fun w _ => laidMet Tryd.prog Rows.fnExactReadEntryRow.laid w) (fun _ _ _ hh h => h.of_heap hh) own started (by kernel_rfl) Tryd.func4
    (ChangeSpec.witness_at (enc := enc) (C := Tryd.checked) (os := os) (X := fun w _ => laidMet Tryd.prog Rows.fnExactReadEntryRow.laid w) false (World.laidAll Tryd.prog os Rows.fnExactReadEntryRow.laid) #[.string ⟨#[]⟩] 8 (World.laidAll_os _ _ _) (by kernel_rfl) (by kernel_rfl) (by kernel_rfl) (by kernel_rfl) (by kernel_rfl) (laidMet_laidAll _ (by kernel_rfl) (by kernel_rfl))) ?_
  intro W base args ds gs before hval0 hW hcnd hsz0 hL _
  have hsz : (DataW.weightsEach Tryd.prog (Tryd.f4.params.toList ++ Rows.fnExactReadEntrySpec.plain.varTypes Tryd.prog) (ds ++ gs)).all (· ≤ reachBytes) = true := hsz0
  have hval : ∀ (j : Nat) t v, Tryd.f4.params[j]? = some t → args[j]? = some v → Value.okWide Tryd.prog W .any base t v := hval0
  have hW' := hW
  obtain ⟨p, q, hA0, hV, rfl, hfz, hnd⟩ := hW
  have hA : DataW.TrodAll enc Tryd.prog W 0 (fun _ => true) true Tryd.f4.params.toList args.toList ds p := hA0
  rw [Tryd.params4] at hA hval hsz
  obtain ⟨v1, d1, rfl, rfl, h1⟩ := trodAll_one hA
  obtain ⟨rfl, rfl⟩ := trodVars_none hV
  obtain ⟨s, rfl, rfl, rfl, ws⟩ := open_string Tryd.underlying9 (hval 0 9 v1 rfl rfl) h1
  clear hA0 hval0
  refine (law_ReadEntry s W Good (fun _ _ => Good.below) (fun _ h => h.tab) ⟨tab_of_laid hL (by rfl), es_of hL (by rfl), er_of hL (by rfl)⟩ (fun x w h1 h2 h3 => kA x w h1 h2 h3) (fun h w => Tryd.strings_LastIndexByte s 58 (by omega) w)).mono fun e W' ⟨he, bel⟩ => ?_
  subst he
  exact ⟨_, rfl, _, _, _, [], [], [], hW', trodAll_mk1 (shut_bool Tryd.underlying4 _), trodAll_mk1 (shut_string Tryd.underlying9 ws), rfl, bel.frame _, fun h => by cases h⟩
theorem read_row : Rows.FnExactReadEntrySaid :=
  OpenClaim.holds_of_wide 4 Tryd.f4 rfl rfl rfl rfl rfl rfl rfl ⟨rfl, rfl, rfl, rfl, rfl⟩ rfl rfl rfl rfl rfl (by kernel_rfl) Tryd.func4 (by kernel_rfl)
    (of_decide_eq_true (by kernel_rfl)) (by unfold Func.isWrapper; first | (rw [if_pos (by decide +kernel)]; kernel_rfl) | (rw [if_neg (by decide +kernel)]; exact ⟨rfl, rfl⟩))
    (fun os started H enc _ => read_lifted os started H enc)
theorem read_holds : Rows.FnExactReadEntryCardSaid :=
  Claim7.holds_tied_plain_at .later [] [.data, .data, .data, .sentinel, .sentinel] true (true, "034d1319bb6caa721b33afb315908b7ea8cd9d3c9d45b3acb76a6fc6e15fdd7d") true
    read_row (fun _ h => by cases h) (by kernel_rfl) (fun _ h => by cases h) fnExactReadEntry_row_tie rfl ⟨rfl, rfl⟩ (by kernel_rfl) rfl
    (fun f fn hf hfn => by
      obtain rfl : f = 4 := Option.some.inj ((show Tryd.prog.funcNamed "loop.example/g03413/laws.FnExactReadEntry" = some 4 by kernel_rfl).symm.trans hf) |>.symm
      obtain rfl : fn = Tryd.f4 := (Option.some.inj (Tryd.func4.symm.trans hfn)).symm
      exact ⟨by kernel_rfl, fun j t ht => by
        rw [Tryd.params4] at ht
        rcases j with _ | j
        · obtain rfl : t = 9 := by simpa using ht.symm
          exact (show Tryd.prog.wantsStandIn 9 = false by kernel_rfl)
        · simp at ht⟩)
    (by kernel_rfl)
#print axioms read_holds
end Go.Proofs.YtjhcdndmbilogaaDoor
