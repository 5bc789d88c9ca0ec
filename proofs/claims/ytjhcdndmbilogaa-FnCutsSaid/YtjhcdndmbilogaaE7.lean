/-
  The engine, part 7: addresses and indices.
  CONDITIONS: those that each theorem names.
-/
import Derived.Test.YtjhcdndmbilogaaE6
namespace Go.Proofs.Ytjhcdndmbilogaa
namespace Eng
open Go Go.RowKit
set_option linter.unusedVariables false
set_option linter.unusedSimpArgs false
section
variable {P : Program} {K : Ctx} {E : Env} {U : Nat → Prop} {ev : Operand → FV} {a : Act} {w : World} {nid : Nat} {o : Oper} {c : Bool} {e : Eff}

theorem ok_fieldAddr (h : Here K E U ev a w) {t : TypeId} {f : Nat} {x : Operand} (ho : o.op = .fieldAddr t x f) (he : opEff P ev E.H nid o.op = some (c, e)) : Ok P K E U a w nid o e := by
  rw [ho] at he
  simp only [opEff] at he
  have hx := h.e x
  split at he
  · rename_i off fi hf
    obtain ⟨gs, g, hu, hg, rfl, hfi⟩ := fieldOf_ok hf
    split at he
    · cases he
    · rename_i hsz
      have hrun : ∀ b x', a.eval x = .pointer (some ⟨b, x', none⟩) → (execOp a.eval o).run P w = .ok (.value (.pointer (some ⟨b, x' + g.offset, none⟩))) w := fun b x' hv => by
        simp [execOp, ho, Instr.fieldAt, run_und w hu, hg, hv, Instr.sureAddr, fieldPlace, run_size w hfi, hsz, Addr.add_lit]
      split at he
      · rename_i ob j hev
        rw [hev] at hx
        simp only [Option.some.injEq, Prod.mk.injEq] at he
        obtain ⟨_, rfl⟩ := he
        unfold RepFV at hx
        obtain ⟨b, off, hp, hv⟩ := hx
        refine Goes.val (hrun _ _ hv) (h.same ?_ rfl rfl rfl)
        unfold RepFV
        exact ⟨b, off, hp, by rw [Nat.add_assoc]⟩
      · rename_i ob es i j hev
        rw [hev] at hx
        simp only [Option.some.injEq, Prod.mk.injEq] at he
        obtain ⟨_, rfl⟩ := he
        unfold RepFV at hx
        obtain ⟨b, off, hp, hv, hi⟩ := hx
        refine Goes.val (hrun _ _ hv) (h.same ?_ rfl rfl rfl)
        unfold RepFV
        exact ⟨b, off, hp, by congr 3; omega, hi⟩
      · rename_i cells hev
        rw [hev] at hx
        simp only [Option.some.injEq, Prod.mk.injEq] at he
        obtain ⟨_, rfl⟩ := he
        unfold RepFV at hx
        obtain ⟨b, off, hv, hcell⟩ := hx
        refine Goes.val (hrun _ _ hv) (h.same ?_ rfl rfl rfl)
        unfold RepFV
        refine ⟨b, _, rfl, fun j d hj => ?_⟩
        rw [List.getElem?_drop] at hj
        rw [Nat.add_assoc]
        exact hcell _ d hj
      · cases he
  · cases he

theorem asI_ok {x : FV} {v : Value} {n : Int} (h : asI x = some n) (hr : RepFV E w x v) : ∃ k, v = .int k n := by
  unfold asI at h
  split at h
  · rename_i k m
    cases h
    exact ⟨k, hr.v_eq⟩
  · cases h

theorem ok_indexAddr (h : Here K E U ev a w) {t : TypeId} {x y : Operand} (ho : o.op = .indexAddr t x y) (hc : c = true) (he : opEff P ev E.H nid o.op = some (c, e)) : Ok P K E U a w nid o e := by
  rw [ho] at he
  simp only [opEff] at he
  have hx := h.e x
  have hy := h.e y
  split at he
  · rename_i et te n hel hn
    obtain ⟨hu, hte⟩ := elemOf_ok hel
    obtain ⟨k, hyv⟩ := asI_ok hn hy
    have hrun : ∀ b off m cap, a.eval x = .slice (some ⟨b, off, none⟩) m cap → 0 ≤ n → n < (m : Int) → (execOp a.eval o).run P w = .ok (.value (.pointer (some ⟨b, off + n.toNat * te.size, none⟩))) w := fun b off m cap hv h0 h1 => by
      simp [execOp, ho, Instr.indexAt, hyv, asIntOf, run_und w hu, hv, h0, h1, run_size w hte, Addr.add_lit]
    split at he
    · rename_i ty xs hev
      rw [hev] at hx
      split at he
      · rename_i hes
        simp only [Option.some.injEq, Prod.mk.injEq] at he
        obtain ⟨rfl, rfl⟩ := he
        simp only [Bool.and_eq_true, decide_eq_true_eq] at hc
        obtain ⟨h0, h1⟩ := hc
        unfold RepFV at hx
        have hx' : RepT E.Z w (.sl ty) xs [a.eval x] := hx
        have hlt : n.toNat < xs.length := by omega
        unfold RepT at hx'
        obtain ⟨p, cap, hv, hcs⟩ := hx'
        simp only [List.cons.injEq, and_true] at hv
        rcases hcs with rfl | ⟨b, off, rfl, hcap, hcell⟩
        · simp at hlt
        · obtain ⟨us, hu1, hu2⟩ := hcell n.toNat _ (gt_of hlt)
          refine Goes.val (hrun b off _ cap hv h0 h1) (h.same ?_ rfl rfl rfl)
          unfold RepFV
          have hr := enc_rep (E := E) ty _ _ hu1
          refine ⟨b, _, rfl, fun j d hj => ?_⟩
          have hjl : j < us.length := by rw [hr.1]; exact (List.getElem?_eq_some_iff.1 hj).1
          have hju := List.getElem?_eq_getElem hjl
          obtain ⟨h3, h4⟩ := hu2 j _ hju
          refine ⟨us[j], ?_, ?_, hr.2 j d _ hj hju⟩
          · rw [Nat.add_assoc, ← hes]; exact h3
          · rw [Nat.add_assoc, ← hes]; exact h4
      · cases he
    · rename_i ob es hev
      rw [hev] at hx
      split at he
      · rename_i fz ty xs hH
        split at he
        · rename_i hes
          obtain ⟨rfl, hes⟩ := hes
          simp only [Option.some.injEq, Prod.mk.injEq] at he
          obtain ⟨rfl, rfl⟩ := he
          simp only [Bool.and_eq_true, decide_eq_true_eq] at hc
          obtain ⟨h0, h1⟩ := hc
          unfold RepFV at hx
          obtain ⟨m, hr, hm⟩ := hx
          have hm' := hm _ _ _ hH
          subst hm'
          rcases hr with ⟨_, hr, _⟩ | ⟨b, off, x', cap, hp, hv, hxx, hcap, _⟩
          · omega
          · have := hxx (by omega)
            subst this
            refine Goes.val (hrun b _ _ cap hv h0 h1) (h.same ?_ rfl rfl rfl)
            unfold RepFV
            exact ⟨b, off, hp, by congr 3; omega, fun fz' t' xs' hh => by rw [hH] at hh; cases hh; omega⟩
        · cases he
      · cases he
    · rename_i ob es lo m hev
      rw [hev] at hx
      split at he
      · rename_i hes
        subst hes
        simp only [Option.some.injEq, Prod.mk.injEq] at he
        obtain ⟨rfl, rfl⟩ := he
        simp only [Bool.and_eq_true, decide_eq_true_eq] at hc
        obtain ⟨h0, h1⟩ := hc
        unfold RepFV at hx
        obtain ⟨hr, hm⟩ := hx
        rcases hr with ⟨_, rfl, _⟩ | ⟨b, off, x', cap, hp, hv, hxx, hcap, _⟩
        · omega
        · have := hxx (by omega)
          subst this
          refine Goes.val (hrun b _ m cap hv h0 h1) (h.same ?_ rfl rfl rfl)
          unfold RepFV
          exact ⟨b, off, hp, by rw [Nat.add_mul]; congr 3; omega, fun fz' t' xs' hh => by have := hm _ _ _ hh; omega⟩
      · cases he
    · cases he
  · cases he

theorem ok_index (h : Here K E U ev a w) {t : TypeId} {x y : Operand} (ho : o.op = .index t x y) (hc : c = true) (he : opEff P ev E.H nid o.op = some (c, e)) : Ok P K E U a w nid o e := by
  rw [ho] at he
  simp only [opEff] at he
  have hx := h.e x
  have hy := h.e y
  split at he
  · rename_i ti s n hti hev hn
    obtain ⟨d, i, z, hu, _, _, _, _, _, hk, _⟩ := tiOf_ok hti
    obtain ⟨k, hyv⟩ := asI_ok hn hy
    rw [hev] at hx
    split at he
    · rename_i hs
      rw [hs] at hk
      obtain rfl := tk_string hk
      simp only [Option.some.injEq, Prod.mk.injEq] at he
      obtain ⟨rfl, rfl⟩ := he
      simp only [Bool.and_eq_true, decide_eq_true_eq] at hc
      obtain ⟨h0, h1⟩ := hc
      have hlt : n.toNat < s.size := by omega
      refine Goes.val (w' := w) ?_ (h.same (RepFV.ofV (r := .int .u8 ((s.data.getD n.toNat 0).toNat : Int)) rfl) rfl rfl rfl)
      have hg : s[n.toNat]? = some (s.data.getD n.toNat 0) := by
        have h2 : n.toNat < s.data.size := hlt
        rw [getElem?_pos s n.toNat hlt]
        simp only [Array.getD, Option.some.injEq]
        rw [dif_pos h2]
        rfl
      simp [execOp, ho, Instr.index, hyv, asIntOf, run_und w hu, hx.v_eq, h0, hg]
    · cases he
  · cases he
end
end Eng
end Go.Proofs.Ytjhcdndmbilogaa
