/-
  The engine, part 8: slices of slices and strings, lengths, new rows.
  CONDITIONS: those that each theorem names.
-/
import Derived.Test.YtjhcdndmbilogaaE7
import Derived.Laws.Small
namespace Go.Proofs.Ytjhcdndmbilogaa
namespace Eng
open Go Go.RowKit
set_option linter.unusedVariables false
set_option linter.unusedSimpArgs false

theorem cndL_spec {l h : Option Int} {len : Nat} (hc : cndL l h len = true) : 0 ≤ loI l ∧ loI l ≤ hiI h len ∧ hiI h len ≤ (len : Int) := by
  unfold cndL at hc
  cases l <;> cases h <;> simp [loI, hiI] at hc ⊢ <;> omega
theorem cutL_eq {α : Type} {l h : Option Int} {xs : List α} : cutL l h xs = (xs.take (hiI h xs.length).toNat).drop (loI l).toNat := by
  cases l <;> cases h <;> simp [cutL, loI, hiI]
theorem cutS_eq {l h : Option Int} {s : ByteArray} : cutS l h s = s.extract (loI l).toNat (hiI h s.size).toNat := by
  cases l <;> cases h <;> simp [cutS, loI, hiI]

section
variable {P : Program} {K : Ctx} {E : Env} {U : Nat → Prop} {ev : Operand → FV} {a : Act} {w : World} {nid : Nat} {o : Oper} {c : Bool} {e : Eff}

theorem RepFV.ofC {x : C} {v : Value} (h : RepC E w x v) : RepFV E w (.c x) v := by unfold RepFV; exact h
theorem bounds_run {lo hi : Option Operand} {l hh : Option Int} {isSlice : Bool} {len cap : Nat} (h : Here K E U ev a w)
    (hlo : bI ev lo = some l) (hhi : bI ev hi = some hh) (hcn : cndL l hh len = true) (hc : len ≤ cap) :
    (Instr.sliceBounds isSlice len cap (lo.map a.eval) (hi.map a.eval) none).run P w = .ok ((loI l).toNat, (hiI hh len).toNat, cap) w := by
  obtain ⟨h0, h1, h2⟩ := cndL_spec hcn
  have one : ∀ z n, asI (ev z) = some n → ∃ k, a.eval z = .int k n := fun z n hz => asI_ok hz (h.e z)
  cases lo with
  | none =>
    simp only [bI, Option.some.injEq] at hlo
    subst hlo
    cases hi with
    | none =>
      simp only [bI, Option.some.injEq] at hhi
      subst hhi
      simp [Instr.sliceBounds, loI, hiI]
    | some z =>
      simp only [bI] at hhi
      split at hhi
      · rename_i n hz
        cases hhi
        obtain ⟨k, hk⟩ := one z n hz
        simp only [loI, hiI] at h0 h1 h2
        have : n ≤ (cap : Int) := by omega
        simp [Instr.sliceBounds, Instr.sliceBound, hk, asIntOf, h1, this, loI, hiI]
      · cases hhi
  | some y =>
    simp only [bI] at hlo
    split at hlo
    · rename_i m hy
      cases hlo
      obtain ⟨k', hk'⟩ := one y m hy
      cases hi with
      | none =>
        simp only [bI, Option.some.injEq] at hhi
        subst hhi
        simp only [loI, hiI] at h0 h1 h2
        simp [Instr.sliceBounds, Instr.sliceBound, hk', asIntOf, h0, h1, loI, hiI]
      | some z =>
        simp only [bI] at hhi
        split at hhi
        · rename_i n hz
          cases hhi
          obtain ⟨k, hk⟩ := one z n hz
          simp only [loI, hiI] at h0 h1 h2
          have h3 : n ≤ (cap : Int) := by omega
          have h4 : 0 ≤ n := by omega
          have h5 : ((n.toNat : Nat) : Int) = n := Int.toNat_of_nonneg h4
          simp [Instr.sliceBounds, Instr.sliceBound, hk, hk', asIntOf, h0, h1, h3, h4, h5, loI, hiI]
        · cases hhi
    · cases hlo

theorem ok_slice (h : Here K E U ev a w) {t : TypeId} {x : Operand} {lo hi mx : Option Operand} (ho : o.op = .slice t x lo hi mx) (hc : c = true) (he : opEff P ev E.H nid o.op = some (c, e)) : Ok P K E U a w nid o e := by
  rw [ho] at he
  cases mx with
  | some mx => simp [opEff] at he
  | none =>
  simp only [opEff] at he
  have hx := h.e x
  split at he
  · rename_i ti l hh hti hlo hhi
    obtain ⟨d, i, z, hu, _, _, _, _, _, hk, _⟩ := tiOf_ok hti
    -- a slice value, its bounds
    have hsl : ∀ {et : TypeId} {te : TI} {ad : Option Addr} {len cap : Nat}, d = .slice et → tiOf P et = some te → a.eval x = .slice ad len cap → len ≤ cap → cndL l hh len = true →
        (execOp a.eval o).run P w = .ok (.value (.slice (if cap = (loI l).toNat then ad else ad.map (·.add ((loI l).toNat * te.size))) ((hiI hh len).toNat - (loI l).toNat) (cap - (loI l).toNat))) w := fun {et te ad len cap} hd hte hv hcap hcn => by
      subst hd
      have hb := bounds_run (P := P) (isSlice := true) (len := len) (cap := cap) h hlo hhi hcn hcap
      simp [execOp, ho, Instr.sliceAt, Instr.slice, run_und w hu, hv, hb, run_size w hte]
    split at he
    · rename_i s hs hev
      rw [hs] at hk
      obtain rfl := tk_string hk
      rw [hev] at hx
      simp only [Option.some.injEq, Prod.mk.injEq] at he
      obtain ⟨rfl, rfl⟩ := he
      have hb := bounds_run (P := P) (isSlice := false) (len := s.size) (cap := s.size) h hlo hhi hc (Nat.le_refl _)
      refine Goes.val (w' := w) ?_ (h.same (RepFV.ofV (r := .string (cutS l hh s)) rfl) rfl rfl rfl)
      rw [cutS_eq]
      simp [execOp, ho, Instr.sliceAt, Instr.slice, run_und w hu, hx.v_eq, hb]
    · rename_i et ty xs hs hev
      rw [hs] at hk
      rw [hev] at hx
      split at he
      · rename_i te hte
        split at he
        · rename_i hes
          simp only [Option.some.injEq, Prod.mk.injEq] at he
          obtain ⟨rfl, rfl⟩ := he
          obtain ⟨h0, h1, h2⟩ := cndL_spec hc
          unfold RepFV at hx
          have hx' : RepT E.Z w (.sl ty) xs [a.eval x] := hx
          unfold RepT at hx'
          obtain ⟨p, cap, hv, hcs⟩ := hx'
          simp only [List.cons.injEq, and_true] at hv
          have hlen : (cutL l hh xs).length = (hiI hh xs.length).toNat - (loI l).toNat := by rw [cutL_eq]; simp; omega
          rcases hcs with rfl | ⟨b, off, rfl, hcap, hcell⟩
          · have hz1 : (loI l).toNat = 0 := by simp at h1 h2; omega
            have hz2 : (hiI hh ([] : List ty.T).length).toNat = 0 := by simp at h2 ⊢; omega
            refine Goes.val (hsl (tk_slice hk) hte hv (Nat.zero_le _) hc) (h.same (RepFV.ofC ?_) rfl rfl rfl)
            show RepT E.Z w (.sl ty) _ _
            unfold RepT
            exact ⟨_, _, by rw [hlen], .inl (by rw [cutL_eq]; simp)⟩
          · refine Goes.val (hsl (tk_slice hk) hte hv hcap hc) (h.same (RepFV.ofC ?_) rfl rfl rfl)
            show RepT E.Z w (.sl ty) _ _
            unfold RepT
            refine ⟨_, _, by rw [hlen], ?_⟩
            by_cases hn : (hiI hh xs.length).toNat - (loI l).toNat = 0
            · exact .inl (List.eq_nil_of_length_eq_zero (by omega))
            · refine .inr ⟨b, off + (loI l).toNat * ty.size, by rw [if_neg (by omega), hes]; simp [Addr.add_lit], by omega, fun i y hi => ?_⟩
              have hgi : xs[(loI l).toNat + i]? = some y := by
                rw [cutL_eq, List.getElem?_drop] at hi
                have h5 := (List.getElem?_eq_some_iff.1 hi).1
                simp at h5
                rw [List.getElem?_take, if_pos (by omega)] at hi
                exact hi
              obtain ⟨us, hu1, hu2⟩ := hcell _ y hgi
              refine ⟨us, hu1, fun j u hj => ?_⟩
              have := hu2 j u hj
              rw [show off + (((loI l).toNat + i) * ty.size + j) = off + (loI l).toNat * ty.size + (i * ty.size + j) by rw [Nat.add_mul]; omega] at this
              exact this
        · cases he
      · cases he
    · rename_i et ob es hs hev
      rw [hs] at hk
      rw [hev] at hx
      split at he
      · rename_i te fz ty xs hte hH
        split at he
        · rename_i hes
          obtain ⟨rfl, hes⟩ := hes
          simp only [Option.some.injEq, Prod.mk.injEq] at he
          obtain ⟨rfl, rfl⟩ := he
          obtain ⟨h0, h1, h2⟩ := cndL_spec hc
          unfold RepFV at hx
          have hxw := hx
          obtain ⟨m, hr, hm⟩ := hx
          have hm' := hm _ _ _ hH
          subst hm'
          have hres : ∀ v, RepRow E.ρ w ob te.size (loI l).toNat ((hiI hh xs.length).toNat - (loI l).toNat) v → (l = none → hh = none → v = a.eval x) → RepC E w (cutA ob te.size l hh xs.length) v := fun v hv hid => by
            cases l with
            | none =>
              cases hh with
              | none => rw [hid rfl rfl]; exact hxw
              | some h' =>
                simp only [cutA, loI, hiI] at hv h0 h1 h2 ⊢
                refine ⟨by simpa using hv, fun fz' t' xs' hh' => ?_⟩
                rw [hH] at hh'; cases hh'; omega
            | some l' =>
              cases hh with
              | none =>
                simp only [cutA, loI, hiI] at hv h0 h1 h2 ⊢
                refine ⟨by simpa using hv, fun fz' t' xs' hh' => ?_⟩
                rw [hH] at hh'; cases hh'; omega
              | some h' =>
                simp only [cutA, loI, hiI] at hv h0 h1 h2 ⊢
                refine ⟨hv, fun fz' t' xs' hh' => ?_⟩
                rw [hH] at hh'; cases hh'; omega
          rcases hr with ⟨hp, hn0, hv⟩ | ⟨b, off, x', cap, hp, hv, hxx, hcap, hcl⟩
          · rw [hn0] at h1 h2 hc
            have hz1 : (loI l).toNat = 0 := by omega
            have hz2 : (hiI hh 0).toNat = 0 := by omega
            refine Goes.val (hsl (tk_slice hk) hte hv (Nat.le_refl _) hc) (h.same (RepFV.ofC (hres _ ?_ ?_)) rfl rfl rfl)
            · rw [hz1, hz2, hn0, hz2]; exact .inl ⟨hp, rfl, by simp⟩
            · intro _ _; rw [hv, hz1, hz2]; simp
          · refine Goes.val (hsl (tk_slice hk) hte hv hcap hc) (h.same (RepFV.ofC (hres _ ?_ ?_)) rfl rfl rfl)
            · have hmul : (loI l).toNat * te.size + (cap - (loI l).toNat) * te.size = cap * te.size := by rw [← Nat.add_mul]; congr 1; omega
              by_cases hcA : cap = (loI l).toNat
              · refine .inr ⟨b, off, x', cap - (loI l).toNat, hp, by rw [if_pos hcA], fun hne => ?_, by omega, hcl.le (by omega)⟩
                omega
              · refine .inr ⟨b, off, x' + (loI l).toNat * te.size, cap - (loI l).toNat, hp, by rw [if_neg hcA]; simp [Addr.add_lit], fun hne => ?_, by omega, hcl.le (by omega)⟩
                rw [hxx (by omega)]
                omega
            · intro hl hh'
              subst hl; subst hh'
              rw [hv]
              simp [loI, hiI, Addr.add_lit]
        · cases he
      · cases he
    · rename_i et ob es lo0 n hs hev
      rw [hs] at hk
      rw [hev] at hx
      split at he
      · rename_i te hte
        split at he
        · rename_i hes
          subst hes
          simp only [Option.some.injEq, Prod.mk.injEq] at he
          obtain ⟨rfl, rfl⟩ := he
          obtain ⟨h0, h1, h2⟩ := cndL_spec hc
          unfold RepFV at hx
          obtain ⟨hr, hm⟩ := hx
          have hres : ∀ v, RepRow E.ρ w ob te.size (lo0 + (loI l).toNat) ((hiI hh n).toNat - (loI l).toNat) v → RepC E w (.part ob te.size (lo0 + (loI l).toNat) ((hiI hh n).toNat - (loI l).toNat)) v := fun v hv =>
            ⟨hv, fun fz' t' xs' hh' => by have := hm _ _ _ hh'; omega⟩
          rcases hr with ⟨hp, hn0, hv⟩ | ⟨b, off, x', cap, hp, hv, hxx, hcap, hcl⟩
          · subst hn0
            have hz1 : (loI l).toNat = 0 := by omega
            have hz2 : (hiI hh 0).toNat = 0 := by omega
            refine Goes.val (hsl (tk_slice hk) hte hv (Nat.le_refl _) hc) (h.same (RepFV.ofC (hres _ ?_)) rfl rfl rfl)
            exact .inl ⟨hp, by omega, by rw [hz1, hz2]; simp⟩
          · refine Goes.val (hsl (tk_slice hk) hte hv hcap hc) (h.same (RepFV.ofC (hres _ ?_)) rfl rfl rfl)
            have hmul : (loI l).toNat * te.size + (cap - (loI l).toNat) * te.size = cap * te.size := by rw [← Nat.add_mul]; congr 1; omega
            by_cases hcA : cap = (loI l).toNat
            · refine .inr ⟨b, off, x', cap - (loI l).toNat, hp, by rw [if_pos hcA], fun hne => ?_, by omega, hcl.le (by omega)⟩
              omega
            · refine .inr ⟨b, off, x' + (loI l).toNat * te.size, cap - (loI l).toNat, hp, by rw [if_neg hcA]; simp [Addr.add_lit], fun hne => ?_, by omega, hcl.le (by omega)⟩
              rw [hxx (by omega), Nat.add_mul]
              omega
        · cases he
      · cases he
    · cases he
  · cases he

theorem ok_len (h : Here K E U ev a w) {args : Array Operand} {argTypes : Array TypeId} (ho : o.op = .call { callee := .builtin .len, args, argTypes }) (he : opEff P ev E.H nid o.op = some (c, e)) : Ok P K E U a w nid o e := by
  rw [ho] at he
  simp only [opEff] at he
  split at he
  · rename_i x t hx ht
    have hargs : args = #[x] := by apply Array.ext'; exact hx
    have htys : argTypes = #[t] := by apply Array.ext'; exact ht
    subst hargs
    subst htys
    split at he
    · rename_i ti hti
      obtain ⟨d, i, z, hu, _, _, _, _, _, hk, _⟩ := tiOf_ok hti
      have hxr := h.e x
      have hrun : ∀ n v, a.eval x = v → (d = .string ∧ (∃ s, v = .string s ∧ n = s.size)) ∨ ((∃ et, d = .slice et) ∧ ∃ ad cap, v = .slice ad n cap) → (execOp a.eval o).run P w = .ok (.value (.int .i64 (n : Int))) w := fun n v hv hd => by
        rcases hd with ⟨rfl, s, rfl, rfl⟩ | ⟨⟨et, rfl⟩, ad, cap, rfl⟩ <;> simp [execOp, ho, resolve, invoke, builtin, Builtin.len_, run_und w hu, hv, goInt]
      have hrow : ∀ ob es lo n et, tkOf d = .slice et → RepRow E.ρ w ob es lo n (a.eval x) → (execOp a.eval o).run P w = .ok (.value (.int .i64 (n : Int))) w := fun ob es lo n et hks hr => by
        rcases hr with ⟨_, rfl, hv⟩ | ⟨b, off, x', cap, hp, hv, _⟩
        · exact hrun _ _ hv (.inr ⟨⟨_, tk_slice hks⟩, none, 0, rfl⟩)
        · exact hrun _ _ hv (.inr ⟨⟨_, tk_slice hks⟩, _, cap, rfl⟩)
      split at he
      · rename_i n hn
        simp only [Option.some.injEq, Prod.mk.injEq] at he
        obtain ⟨_, rfl⟩ := he
        refine Goes.val (w' := w) (v := .int .i64 (n : Int)) ?_ (h.same (RepFV.ofV (r := .int .i64 (n : Int)) rfl) rfl rfl rfl)
        unfold lenOf at hn
        split at hn
        · rename_i et hks hev
          rw [hev] at hxr
          cases hn
          rw [hks] at hk
          exact hrun _ _ hxr.v_eq (.inr ⟨⟨_, tk_slice hk⟩, none, 0, rfl⟩)
        · rename_i s hks hev
          rw [hev] at hxr
          cases hn
          rw [hks] at hk
          exact hrun _ _ hxr.v_eq (.inl ⟨tk_string hk, s, rfl, rfl⟩)
        · rename_i et ty xs hks hev
          rw [hev] at hxr
          cases hn
          rw [hks] at hk
          unfold RepFV at hxr
          have hx' : RepT E.Z w (.sl ty) xs [a.eval x] := hxr
          unfold RepT at hx'
          obtain ⟨p, cap, hv, _⟩ := hx'
          simp only [List.cons.injEq, and_true] at hv
          exact hrun _ _ hv (.inr ⟨⟨_, tk_slice hk⟩, _, cap, rfl⟩)
        · rename_i et ob es hks hev
          rw [hev] at hxr
          split at hn
          · rename_i fz ty xs hH
            cases hn
            unfold RepFV at hxr
            obtain ⟨m, hr, hm⟩ := hxr
            have := hm _ _ _ hH
            subst this
            rw [hks] at hk
            exact hrow _ _ _ _ _ hk hr
          · cases hn
        · rename_i et ob es lo m hks hev
          rw [hev] at hxr
          cases hn
          rw [hks] at hk
          unfold RepFV at hxr
          exact hrow _ _ _ _ _ hk hxr.1
        · cases hn
      · cases he
    · cases he
  · cases he

theorem ok_max (h : Here K E U ev a w) {args : Array Operand} {argTypes : Array TypeId} (ho : o.op = .call { callee := .builtin .max, args, argTypes }) (he : opEff P ev E.H nid o.op = some (c, e)) : Ok P K E U a w nid o e := by
  rw [ho] at he
  simp only [opEff] at he
  split at he
  · rename_i x y hxy
    have hargs : args = #[x, y] := by apply Array.ext'; exact hxy
    subst hargs
    have hx := h.e x
    have hy := h.e y
    split at he
    · rename_i k p k' q hu hv
      rw [hu] at hx
      rw [hv] at hy
      split at he
      · simp only [Option.some.injEq, Prod.mk.injEq] at he
        obtain ⟨_, rfl⟩ := he
        refine Goes.val (w' := w) ?_ (h.same (RepFV.ofV (r := .int k (imax p q)) rfl) rfl rfl rfl)
        simp [execOp, ho, resolve, invoke, builtin, hx.v_eq, hy.v_eq, run_max_int2, imax]
      · cases he
    · cases he
  · cases he
theorem ok_min (h : Here K E U ev a w) {args : Array Operand} {argTypes : Array TypeId} (ho : o.op = .call { callee := .builtin .min, args, argTypes }) (he : opEff P ev E.H nid o.op = some (c, e)) : Ok P K E U a w nid o e := by
  rw [ho] at he
  simp only [opEff] at he
  split at he
  · rename_i x y hxy
    have hargs : args = #[x, y] := by apply Array.ext'; exact hxy
    subst hargs
    have hx := h.e x
    have hy := h.e y
    split at he
    · rename_i k p k' q hu hv
      rw [hu] at hx
      rw [hv] at hy
      split at he
      · simp only [Option.some.injEq, Prod.mk.injEq] at he
        obtain ⟨_, rfl⟩ := he
        refine Goes.val (w' := w) ?_ (h.same (RepFV.ofV (r := .int k (imin p q)) rfl) rfl rfl rfl)
        simp [execOp, ho, resolve, invoke, builtin, hx.v_eq, hy.v_eq, run_min_int2, imin]
      · cases he
    · cases he
  · cases he

/-- A new block that holds a new row. -/
theorem WRel.newRow (hW : WRel K E U w) (hn : ¬ U nid) {fz : Bool} {t : Ty} {xs : List t.T} (arr : Array Value) (ty : TypeId) (hsz : xs.length * t.size ≤ arr.size)
    (hr : ∀ (i : Nat) (x : t.T), xs[i]? = some x → ∃ us, RepT E.Z w t x us ∧ ∀ (j : Nat) (u : Value), us[j]? = some u → arr[i * t.size + j]? = some u) :
    Le E w ⟨updP E.ρ nid (.at w.heap.size 0), E.Z, setH E.H nid (some (.row fz t xs))⟩ (pushW w arr ty) ∧
    WRel K ⟨updP E.ρ nid (.at w.heap.size 0), E.Z, setH E.H nid (some (.row fz t xs))⟩ (fun x => U x ∨ x = nid) (pushW w arr ty) :=
  hW.push arr ty hn (fun hl => Or.inr ⟨w.heap.size, 0, updP_same _ _ _, fun y hz => absurd (hW.zlt _ _ hz) (Nat.lt_irrefl _), ⟨arr, ty, pushW_new w arr ty, by omega⟩, fun i x hx => by
    obtain ⟨us, h3, h4⟩ := hr i x hx
    exact ⟨us, RepT.mono hl.Z hl.k t _ _ h3, fun j u hu => by rw [Nat.zero_add, pushW_cell]; exact h4 j u hu⟩⟩)

theorem ok_makeSlice (h : Here K E U ev a w) (hn : ¬ U nid) {t : TypeId} {x y : Operand} (ho : o.op = .makeSlice t x y) (hc : c = true) (he : opEff P ev E.H nid o.op = some (c, e)) : Ok P K E U a w nid o e := by
  rw [ho] at he
  simp only [opEff] at he
  split at he
  · rename_i et te n m hel hnx hmy
    obtain ⟨hu, hte⟩ := elemOf_ok hel
    obtain ⟨k1, hx⟩ := asI_ok hnx (h.e x)
    obtain ⟨k2, hy⟩ := asI_ok hmy (h.e y)
    split at he
    · rename_i ty hty
      split at he
      · rename_i z hz
        split at he
        · rename_i hcond
          obtain ⟨hby512, htysz⟩ := hcond
          simp only [Option.some.injEq, Prod.mk.injEq] at he
          obtain ⟨rfl, rfl⟩ := he
          simp only [Bool.and_eq_true, decide_eq_true_eq] at hc
          obtain ⟨h0, h1, h2⟩ := hc
          obtain ⟨d', i', z', hu', hi', hz', hzc, hsz, hby, _, h1z⟩ := tiOf_ok hte
          have hcap : (cap36 : Int) = 68719476736 := rfl
          have hm0 : 0 ≤ m := by omega
          have hbm : (te.bytes : Int) * m ≤ 512 * 68719476736 :=
            Int.le_trans (Int.mul_le_mul_of_nonneg_right (Int.ofNat_le.2 hby512) hm0) (Int.mul_le_mul_of_nonneg_left (by omega) (by omega))
          have hrun := run_make (P := P) w t et i' z' hu hi' hz' k1 k2 n m h0 h1 (by rw [hby]; omega) (by omega)
          have hzsz : z'.cells.size = te.size := by rw [← Array.length_toList, hzc]; rfl
          have hzr : RepT E.Z w ty z te.zero := dec_rep ty hz (zeros_rep (E := E) h1z)
          have hcell : ∀ k, k < m.toNat * te.size → (madeCells z'.cells (m.toNat * te.size))[k]? = te.zero[k % te.size]? := fun k hk => by
            have hpos : 0 < te.size := Nat.pos_of_ne_zero (fun e => by rw [e] at hk; simp at hk)
            have hlt : k % te.size < z'.cells.size := by rw [hzsz]; exact Nat.mod_lt _ hpos
            unfold madeCells
            rw [Array.getElem?_map, Array.getElem?_range, if_pos hk]
            simp only [Option.map_some, hzsz]
            rw [getElem!_pos z'.cells _ hlt, ← hzc, Array.getElem?_toList, Array.getElem?_eq_getElem hlt]
          have hnm : n.toNat ≤ m.toNat := by omega
          have hmul : n.toNat * te.size ≤ m.toNat * te.size := Nat.mul_le_mul_right _ hnm
          obtain ⟨hl, hW⟩ := h.W.newRow hn (fz := false) (t := ty) (xs := List.replicate n.toNat z) (madeCells z'.cells (m.toNat * te.size)) et
            (by rw [List.length_replicate, size_madeCells, htysz]; exact hmul)
            (fun i x hx => by
              rw [List.getElem?_replicate] at hx
              split at hx
              · rename_i hi
                simp at hx
                subst hx
                refine ⟨te.zero, hzr, fun j u hu1 => ?_⟩
                have hj : j < te.size := (List.getElem?_eq_some_iff.1 hu1).1
                have hm2 : i * te.size + te.size ≤ n.toNat * te.size := by
                  have : (i + 1) * te.size ≤ n.toNat * te.size := Nat.mul_le_mul_right _ hi
                  rw [Nat.add_mul, Nat.one_mul] at this
                  exact this
                rw [htysz, hcell _ (by omega), Nat.add_comm, Nat.add_mul_mod_self_right, Nat.mod_eq_of_lt hj]
                exact hu1
              · cases hx)
          rw [hsz] at hrun
          refine Goes.val (w' := pushW w (madeCells z'.cells (m.toNat * te.size)) et) (v := .slice (some ⟨w.heap.size, 0, none⟩) n.toNat m.toNat) (by simp [execOp, ho, hx, hy, hrun]) ?_
          rw [app_one E.H _ nid _ rfl rfl]
          refine ⟨_, rfl, hl, hW, RepFV.ofC ⟨n.toNat, .inr ⟨w.heap.size, 0, 0, m.toNat, updP_same _ _ _, rfl, fun _ => by omega, hnm, ⟨_, et, pushW_new _ _ _, by rw [size_madeCells]; omega⟩⟩, fun fz' t' xs' hh => ?_⟩⟩
          simp only [setH_same, Option.some.injEq] at hh
          cases hh
          simp
        · cases he
      · cases he
    · cases he
  · cases he
end
end Eng
end Go.Proofs.Ytjhcdndmbilogaa
