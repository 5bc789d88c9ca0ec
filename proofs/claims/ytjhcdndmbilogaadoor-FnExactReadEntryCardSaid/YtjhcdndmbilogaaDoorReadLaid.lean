/-
  The laid sentinels as variables.
  CONDITIONS: those that each theorem names.
-/
import Derived.Test.YtjhcdndmbilogaaDoorReadWorld
import Derived.Test.YtjhcdndmbilogaaDoorRows
import Derived.Stop.LaidErr
import Derived.LaidSub
import Derived.Lib.LaidTab
import Derived.KernelRfl
namespace Go.Proofs.YtjhcdndmbilogaaDoor
open Go.RowKit Go.Shelf
theorem starES : "*" ++ "errors.errorString" = "*errors.errorString" := by decide
theorem row180 (u : TypeId) (h : Tryd.prog.typeName? 3 u = some "*errors.errorString") : u = 180 :=
  typeName_ptr_named (nm := "errors.errorString") (by rw [starES]; kernel_rfl) (by kernel_rfl) (by decide) u (by rw [starES]; exact h)
theorem es_of {l : List (String × DataW Unit)} {W : World} (h : laidMet Tryd.prog l W)
    (hl : l.filter (fun x => x.1 == "strconv.ErrSyntax") = [("strconv.ErrSyntax", Rows.laid_strconv_ErrSyntax)]) : ∃ tp p, W.var? Tryd.prog "strconv.ErrSyntax" = some #[.iface tp p] := by
  have h1 := laidMet.filter (fun x => x.1 == "strconv.ErrSyntax") h
  rw [hl] at h1
  obtain ⟨a, s, hv, _⟩ := laid_sentinel (g := 1) (ti := 102) (tp := 180) (te := 182) (ts := 9) h1 (by kernel_rfl) (by kernel_rfl) Tryd.underlying102 row180 Tryd.underlying180 Tryd.underlying182 rfl rfl Tryd.underlying9 (by kernel_rfl) (by kernel_rfl)
  exact ⟨_, _, hv⟩
theorem er_of {l : List (String × DataW Unit)} {W : World} (h : laidMet Tryd.prog l W)
    (hl : l.filter (fun x => x.1 == "strconv.ErrRange") = [("strconv.ErrRange", Rows.laid_strconv_ErrRange)]) : ∃ tp p, W.var? Tryd.prog "strconv.ErrRange" = some #[.iface tp p] := by
  have h1 := laidMet.filter (fun x => x.1 == "strconv.ErrRange") h
  rw [hl] at h1
  obtain ⟨a, s, hv, _⟩ := laid_sentinel (g := 2) (ti := 102) (tp := 180) (te := 182) (ts := 9) h1 (by kernel_rfl) (by kernel_rfl) Tryd.underlying102 row180 Tryd.underlying180 Tryd.underlying182 rfl rfl Tryd.underlying9 (by kernel_rfl) (by kernel_rfl)
  exact ⟨_, _, hv⟩
end Go.Proofs.YtjhcdndmbilogaaDoor
