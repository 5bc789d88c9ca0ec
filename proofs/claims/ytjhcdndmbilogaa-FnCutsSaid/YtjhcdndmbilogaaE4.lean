/-
  The engine, part 4: each operation of opEff does so in the model.
  CONDITIONS: those that each theorem names.
-/
import Derived.Test.YtjhcdndmbilogaaE3
namespace Go.Proofs.Ytjhcdndmbilogaa
namespace Eng
open Go Go.RowKit
set_option linter.unusedVariables false
set_option linter.unusedSimpArgs false

theorem tiOf_ok {P : Program} {t : TypeId} {ti : TI} (h : tiOf P t = some ti) : ∃ d i z, P.underlying t = some d ∧ P.info? t = some i ∧ i.zero = some z ∧ z.cells.toList = ti.zero ∧ i.size = ti.size ∧ i.bytes = ti.bytes ∧ tkOf d = ti.k ∧
    (∀ v ∈ ti.zero, v.oneCell' = true) := by
  unfold tiOf at h
  split at h
  · rename_i d i hd hi
    split at h
    · rename_i z hz
      split at h
      · rename_i hc
        cases h
        refine ⟨d, i, z, hd, hi, hz, rfl, by simp [TI.size, ← hc.1], rfl, rfl, fun v hv => ?_⟩
        have := hc.2
        rw [Array.all_eq_true_iff_forall_mem] at this
        exact this v (by simpa using hv)
      · cases h
    · cases h
  · cases h
theorem tk_slice {d : TypeDesc} {e : TypeId} (h : tkOf d = .slice e) : d = .slice e := by cases d <;> simp_all [tkOf]
theorem tk_string {d : TypeDesc} (h : tkOf d = .string) : d = .string := by cases d <;> simp_all [tkOf]
theorem tk_int {d : TypeDesc} {k : IntKind} (h : tkOf d = .int k) : d = .int k := by cases d <;> simp_all [tkOf]
theorem tk_struct {d : TypeDesc} {fs : List (Nat × TypeId)} (h : tkOf d = .struct fs) : ∃ gs, d = .struct gs ∧ gs.toList.map (fun f => (f.offset, f.type)) = fs := by cases d <;> simp_all [tkOf]
theorem ti_agg {d : TypeDesc} {ti : TI} (h : tkOf d = ti.k) : ti.agg = true ↔ (∃ fs, d = .struct fs) ∨ ∃ n e, d = .array n e := by
  unfold TI.agg
  rw [← h]
  cases d <;> simp [tkOf]

section
variable {P : Program}
theorem run_und {t : TypeId} {d : TypeDesc} (w : World) (h : P.underlying t = some d) : (underlying t).run P w = .ok d w := by
  simp [underlying, program, Sem.run_bind, Sem.run, h, Result.andThen]
theorem run_info {t : TypeId} {i : TypeInfo} (w : World) (h : P.info? t = some i) : (typeInfo t).run P w = .ok i w := by
  simp [typeInfo, program, Sem.run_bind, Sem.run, h, Result.andThen]
theorem run_size {t : TypeId} {ti : TI} (w : World) (h : tiOf P t = some ti) : (Go.sizeOf t).run P w = .ok ti.size w := by
  obtain ⟨d, i, z, _, hi, _, _, hs, _⟩ := tiOf_ok h
  simp [Go.sizeOf, Sem.run_bind, run_info w hi, hs]
theorem run_zero {t : TypeId} {ti : TI} (w : World) (h : tiOf P t = some ti) : ∃ z, (zeroValue t).run P w = .ok z w ∧ z.cells.toList = ti.zero := by
  obtain ⟨d, i, z, _, hi, hz, hc, hs, _⟩ := tiOf_ok h
  exact ⟨z, by simp [zeroValue, Sem.run_bind, run_info w hi, hz], hc⟩
theorem run_isAgg {t : TypeId} {ti : TI} (w : World) (h : tiOf P t = some ti) : (isAgg t).run P w = .ok ti.agg w := by
  obtain ⟨d, i, z, hu, _, _, _, _, _, hk, _⟩ := tiOf_ok h
  simp only [isAgg, Sem.run_bind, run_und w hu, Result.andThen_ok]
  have := ti_agg (d := d) (ti := ti) hk
  cases d <;> simp at this <;> simp [this]
theorem run_loadVar' {t : TypeId} {ti : TI} (w : World) (h : tiOf P t = some ti) (b off : Nat) (cs : List Value) (hl : cs.length = ti.size) (h1 : ti.agg = false → ti.size = 1)
    (hc : ∀ j v, cs[j]? = some v → w.cell? ⟨b, off + j, none⟩ = some v) : (loadVar t ⟨b, off, none⟩).run P w = .ok (if ti.agg then .agg cs.toArray else cs.getD 0 undef) w := by
  simp only [loadVar, Sem.run_bind, run_isAgg w h, Result.andThen_ok]
  cases ha : ti.agg with
  | true =>
    simp only [if_true, Sem.run_bind, run_size w h, Result.andThen_ok]
    rw [← hl, run_loadCells_list w ⟨b, off, none⟩ cs (fun j v hj => by rw [Addr.add_lit]; exact hc j v hj)]
    rfl
  | false =>
    have h2 := h1 ha
    obtain ⟨x, rfl⟩ : ∃ x, cs = [x] := by
      match cs, hl.trans h2 with
      | [x], _ => exact ⟨x, rfl⟩
    have h3 := hc 0 x rfl
    simp only [Nat.add_zero] at h3
    simp [load, Sem.run, h3]
theorem frozen_of {w : World} {b n : Nat} (h : Cells w b n) (x : Nat) : w.frozen? ⟨b, x, none⟩ = false := by
  obtain ⟨cs, ty, h1, _⟩ := h
  simp [World.frozen?, h1]
theorem cell_of {w : World} {b n x : Nat} (h : Cells w b n) (hx : x < n) : (w.cell? ⟨b, x, none⟩).isSome = true := by
  obtain ⟨cs, ty, h1, h2⟩ := h
  have : x < cs.size := by omega
  simp [World.cell?, h1, this]
theorem run_storeVar' {t : TypeId} {ti : TI} (w : World) (h : tiOf P t = some ti) (b off : Nat) (v : Value) (vs : List Value) (hv : v.cells.toList = vs) (hl : vs.length = ti.size) (hc : Cells w b (off + vs.length))
    (h1 : ∀ u ∈ vs, u.oneCell' = true) : (storeVar t ⟨b, off, none⟩ v).run P w = .ok () (w.setCells b off vs) := by
  have hs : v.cells.size = ti.size := by rw [← hl, ← hv]; simp
  have := run_storeCells_cells (P := P) b off vs 0 w (fun j hj => cell_of hc (by omega)) (fun j hj => frozen_of hc _) h1
  simp only [Nat.add_zero] at this
  simp [storeVar, Sem.run_bind, run_size w h, hs, hv, this]
end


theorem RepFV.v_eq {E : Env} {w : World} {x y : Value} (h : RepFV E w (.c (.v x)) y) : y = x := by unfold RepFV at h; exact h.1
theorem RepRow.one {ρ : Place} {w : World} {o es lo n : Nat} {v : Value} (h : RepRow ρ w o es lo n v) : v.oneCell' = true := by
  rcases h with ⟨_, _, rfl⟩ | ⟨b, off, x, cap, _, rfl, _⟩ <;> rfl
theorem RepC.one {E : Env} {w : World} {c : C} {v : Value} (h : RepC E w c v) : v.oneCell' = true := by
  cases c with
  | v x => obtain ⟨rfl, h⟩ := h; exact h
  | e b => exact RepT.ones (Z := E.Z) (w := w) .ifc b _ h v (by simp)
  | sl t xs => exact RepT.ones (Z := E.Z) (w := w) (.sl t) xs _ h v (by simp)
  | all o es => obtain ⟨n, h, _⟩ := h; exact h.one
  | part o es lo n => exact h.1.one
theorem RepCs.ones {E : Env} {w : World} {cs : List C} {vs : List Value} (h : RepCs E w cs vs) : ∀ u ∈ vs, u.oneCell' = true := fun u hu => by
  obtain ⟨j, hj⟩ := List.mem_iff_getElem?.1 hu
  have hlt : j < cs.length := by rw [← h.1]; exact (List.getElem?_eq_some_iff.1 hj).1
  exact RepC.one (h.2 j _ u (List.getElem?_eq_getElem hlt) hj)
theorem RepCs.nil {E : Env} {w : World} : RepCs E w [] [] := ⟨rfl, fun i c u h => by simp at h⟩
theorem RepCs.single {E : Env} {w : World} {c : C} {v : Value} (h : RepC E w c v) : RepCs E w [c] [v] :=
  ⟨rfl, fun j d u hj hu => by
    cases j with
    | zero => simp at hj hu; subst hj; subst hu; exact h
    | succ j => simp at hj⟩
theorem RepCs.append {E : Env} {w : World} {cs ds : List C} {vs us : List Value} (h : RepCs E w cs vs) (k : RepCs E w ds us) : RepCs E w (cs ++ ds) (vs ++ us) :=
  ⟨by simp [h.1, k.1], fun i c u hc hu => by
    by_cases hi : i < cs.length
    · rw [List.getElem?_append_left hi] at hc
      rw [List.getElem?_append_left (by rw [h.1]; exact hi)] at hu
      exact h.2 i c u hc hu
    · rw [List.getElem?_append_right (by omega)] at hc
      rw [List.getElem?_append_right (by rw [h.1]; omega), h.1] at hu
      exact k.2 _ c u hc hu⟩
theorem RepCs.cons {E : Env} {w : World} {c : C} {cs : List C} {v : Value} {vs : List Value} (h : RepC E w c v) (k : RepCs E w cs vs) : RepCs E w (c :: cs) (v :: vs) :=
  RepCs.append (RepCs.single h) k
theorem RepCs.uncons {E : Env} {w : World} {c : C} {cs : List C} {vs : List Value} (h : RepCs E w (c :: cs) vs) : ∃ v us, vs = v :: us ∧ RepC E w c v ∧ RepCs E w cs us := by
  match vs, h with
  | [], h => exact absurd h.1 (by simp)
  | v :: us, h => exact ⟨v, us, rfl, h.2 0 c v rfl rfl, by simpa using h.1, fun i d u hd hu => h.2 (i + 1) d u (by simpa using hd) (by simpa using hu)⟩
theorem RepCs.take {E : Env} {w : World} {cs : List C} {vs : List Value} (h : RepCs E w cs vs) (n : Nat) : RepCs E w (cs.take n) (vs.take n) :=
  ⟨by simp [h.1], fun i c u hc hu => by
    rw [List.getElem?_take] at hc hu
    by_cases hi : i < n
    · rw [if_pos hi] at hc hu; exact h.2 i c u hc hu
    · rw [if_neg hi] at hc; cases hc⟩
theorem RepCs.drop {E : Env} {w : World} {cs : List C} {vs : List Value} (h : RepCs E w cs vs) (n : Nat) : RepCs E w (cs.drop n) (vs.drop n) :=
  ⟨by simp [h.1], fun i c u hc hu => by
    rw [List.getElem?_drop] at hc hu
    exact h.2 _ c u hc hu⟩

/-- Data of a type read as its cells. -/
theorem enc_rep {E : Env} {w : World} : ∀ (t : Ty) (x : t.T) (vs : List Value), RepT E.Z w t x vs → RepCs E w (enc t x) vs
  | .int k, x, vs, h => by unfold RepT at h; subst h; exact RepCs.single ⟨rfl, rfl⟩
  | .bool, x, vs, h => by unfold RepT at h; subst h; exact RepCs.single ⟨rfl, rfl⟩
  | .str, x, vs, h => by unfold RepT at h; subst h; exact RepCs.single ⟨rfl, rfl⟩
  | .ifc, x, vs, h => by
    obtain ⟨v, rfl, h'⟩ := h
    exact RepCs.single (c := .e x) (show RepT E.Z w .ifc x [v] from ⟨v, rfl, h'⟩)
  | .unit, x, vs, h => by unfold RepT at h; subst h; exact RepCs.nil
  | .pair a b, x, vs, h => by
    unfold RepT at h
    obtain ⟨us, ws, rfl, h1, h2⟩ := h
    unfold enc
    exact (enc_rep a _ _ h1).append (enc_rep b _ _ h2)
  | .sl a, xs, vs, h => by
    have h' := h
    unfold RepT at h'
    obtain ⟨p, cap, rfl, _⟩ := h'
    exact RepCs.single (c := .sl a xs) h
theorem dec_rep {E : Env} {w : World} : ∀ (t : Ty) {x : t.T} {cs : List C} {vs : List Value}, dec t cs = some x → RepCs E w cs vs → RepT E.Z w t x vs
  | .int k, x, cs, vs, hd, h => by
    unfold dec at hd
    split at hd
    · rename_i k' n
      split at hd
      · rename_i hk
        cases hd; subst hk
        obtain ⟨v, us, rfl, h1, h2⟩ := h.uncons
        obtain rfl : us = [] := by simpa using h2.1
        obtain ⟨rfl, _⟩ := h1
        rfl
      · cases hd
    · cases hd
  | .bool, x, cs, vs, hd, h => by
    unfold dec at hd
    split at hd
    · cases hd
      obtain ⟨v, us, rfl, h1, h2⟩ := h.uncons
      obtain rfl : us = [] := by simpa using h2.1
      obtain ⟨rfl, _⟩ := h1
      rfl
    · cases hd
  | .str, x, cs, vs, hd, h => by
    unfold dec at hd
    split at hd
    · cases hd
      obtain ⟨v, us, rfl, h1, h2⟩ := h.uncons
      obtain rfl : us = [] := by simpa using h2.1
      obtain ⟨rfl, _⟩ := h1
      rfl
    · cases hd
  | .ifc, x, cs, vs, hd, h => by
    unfold dec at hd
    split at hd
    · cases hd
      obtain ⟨v, us, rfl, h1, h2⟩ := h.uncons
      obtain rfl : us = [] := by simpa using h2.1
      exact h1
    · cases hd
      obtain ⟨v, us, rfl, h1, h2⟩ := h.uncons
      obtain rfl : us = [] := by simpa using h2.1
      obtain ⟨rfl, _⟩ := h1
      exact ⟨_, rfl, .inl ⟨rfl, rfl⟩⟩
    · cases hd
  | .unit, x, cs, vs, hd, h => by
    unfold dec at hd
    split at hd
    · cases hd
      obtain rfl : vs = [] := by simpa using h.1
      rfl
    · cases hd
  | .pair a b, x, cs, vs, hd, h => by
    unfold dec at hd
    split at hd
    · rename_i x1 h1
      split at hd
      · rename_i y1 h2
        cases hd
        unfold RepT
        exact ⟨vs.take a.size, vs.drop a.size, (List.take_append_drop _ _).symm, dec_rep a h1 (h.take _), dec_rep b h2 (h.drop _)⟩
      · cases hd
    · cases hd
  | .sl a, xs, cs, vs, hd, h => by
    unfold dec at hd
    split at hd
    · rename_i b ys
      split at hd
      · rename_i hab
        subst hab
        cases hd
        obtain ⟨v, us, rfl, h1, h2⟩ := h.uncons
        obtain rfl : us = [] := by simpa using h2.1
        exact h1
      · cases hd
    · cases hd
      obtain ⟨v, us, rfl, h1, h2⟩ := h.uncons
      obtain rfl : us = [] := by simpa using h2.1
      obtain ⟨rfl, _⟩ := h1
      unfold RepT
      exact ⟨none, 0, rfl, .inl rfl⟩
    · cases hd

theorem cells_rep {E : Env} {w : World} {x : FV} {v : Value} {xc : List C} (hx : x.cells = some xc) (h : RepFV E w x v) :
    ∃ vs : List Value, v.cells.toList = vs ∧ RepCs E w xc vs := by
  cases x with
  | c y =>
    cases hx
    unfold RepFV at h
    have h1 := RepC.one h
    have hc : v.cells = #[v] := by cases v <;> first | rfl | cases h1
    exact ⟨[v], by rw [hc], RepCs.single h⟩
  | agg cs =>
    cases hx
    unfold RepFV at h
    obtain ⟨vs, rfl, h2⟩ := h
    exact ⟨vs, by simp [Value.cells], h2⟩
  | _ => cases hx

/-- An operation yields a value and leaves a world of which R speaks. -/
def Goes (P : Program) (o : Oper) (a : Act) (w : World) (R : Value → World → Prop) : Prop :=
  ∃ r w', (execOp a.eval o).run P w = .ok r w' ∧ ((∃ v, r = .value v ∧ R v w') ∨ (r = .skip ∧ R undef w'))

theorem Goes.val {P : Program} {o : Oper} {a : Act} {w w' : World} {R : Value → World → Prop} {v : Value} (h : (execOp a.eval o).run P w = .ok (.value v) w') (hR : R v w') : Goes P o a w R :=
  ⟨_, _, h, .inl ⟨v, rfl, hR⟩⟩
theorem Goes.skip {P : Program} {o : Oper} {a : Act} {w w' : World} {R : Value → World → Prop} (h : (execOp a.eval o).run P w = .ok .skip w') (hR : R undef w') : Goes P o a w R :=
  ⟨_, _, h, .inr ⟨rfl, hR⟩⟩

/-- What is known when an operation is carried out. -/
structure Here (K : Ctx) (E : Env) (U : Nat → Prop) (ev : Operand → FV) (a : Act) (w : World) : Prop where
  W : WRel K E U w
  e : ∀ x, RepFV E w (ev x) (a.eval x)

theorem app_nil (H : Hp) (e : Eff) (h1 : e.put = []) (h2 : e.del = []) : e.app H = H := by
  funext o
  unfold Eff.app
  rw [h1, h2]
  simp [lookL]
theorem app_one (H : Hp) (e : Eff) (o : Nat) (ob : Obj) (h1 : e.put = [(o, ob)]) (h2 : e.del = []) : e.app H = setH H o (some ob) := by
  funext x
  unfold Eff.app setH
  rw [h1, h2]
  rw [lookL_cons]
  by_cases hx : x = o
  · simp [hx]
  · simp [hx, lookL]

section
variable {P : Program} {K : Ctx} {E : Env} {U : Nat → Prop} {ev : Operand → FV} {a : Act} {w : World} {nid : Nat} {o : Oper} {c : Bool} {e : Eff}
theorem Here.same (h : Here K E U ev a w) {fv : FV} {v : Value} (hv : RepFV E w fv v) (h1 : e.put = []) (h2 : e.del = []) (h3 : e.val = fv) :
    Out K E (e.app E.H) (fun x => U x ∨ x = nid) w e.val v w := by
  rw [app_nil E.H e h1 h2, h3]
  exact Out.pure (h.W.used_mono (fun _ h => .inl h)) hv
abbrev Ok (P : Program) (K : Ctx) (E : Env) (U : Nat → Prop) (a : Act) (w : World) (nid : Nat) (o : Oper) (e : Eff) : Prop :=
  Goes P o a w fun v w' => Out K E (e.app E.H) (fun x => U x ∨ x = nid) w e.val v w'
theorem ok_move (h : Here K E U ev a w) {x : Operand} (ho : o.op = .move x ∨ o.op = .assign x) (he : opEff P ev E.H nid o.op = some (c, e)) : Ok P K E U a w nid o e := by
  rcases ho with ho | ho <;> (rw [ho] at he; simp only [opEff, Option.some.injEq, Prod.mk.injEq] at he; obtain ⟨_, rfl⟩ := he; exact Goes.val (v := a.eval x) (by simp [execOp, ho]) (h.same (h.e x) rfl rfl rfl))
theorem ok_pick (h : Here K E U ev a w) {x y z : Operand} (ho : o.op = .pick x y z) (he : opEff P ev E.H nid o.op = some (c, e)) : Ok P K E U a w nid o e := by
  rw [ho] at he
  simp only [opEff] at he
  have hx := h.e x
  split at he
  · rename_i t hev
    rw [hev] at hx
    have hb : a.eval x = .bool t := hx.v_eq
    cases t with
    | true =>
      simp only [Option.some.injEq, Prod.mk.injEq] at he
      obtain ⟨_, rfl⟩ := he
      exact Goes.val (v := a.eval y) (by simp [execOp, ho, hb, asBool, Sem.run_bind]) (h.same (h.e y) rfl rfl rfl)
    | false =>
      simp only [Option.some.injEq, Prod.mk.injEq] at he
      obtain ⟨_, rfl⟩ := he
      exact Goes.val (v := a.eval z) (by simp [execOp, ho, hb, asBool, Sem.run_bind]) (h.same (h.e z) rfl rfl rfl)
  · cases he
end
end Eng
end Go.Proofs.Ytjhcdndmbilogaa
