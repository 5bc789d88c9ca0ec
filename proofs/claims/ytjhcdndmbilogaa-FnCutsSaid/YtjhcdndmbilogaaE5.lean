/-
  The engine, part 5: new boxes, loads, freezing, stores.
  CONDITIONS: those that each theorem names.
-/
import Derived.Test.YtjhcdndmbilogaaE4
namespace Go.Proofs.Ytjhcdndmbilogaa
namespace Eng
open Go Go.RowKit
set_option linter.unusedVariables false
set_option linter.unusedSimpArgs false

theorem zeros_rep {E : Env} {w : World} {zs : List Value} (h1 : ∀ v ∈ zs, v.oneCell' = true) : RepCs E w (zs.map fun x => C.v x) zs :=
  ⟨by simp, fun j c u hc hu => by
    rw [List.getElem?_map, hu] at hc
    cases hc
    exact ⟨rfl, h1 u (List.mem_of_getElem? hu)⟩⟩

section
variable {P : Program} {K : Ctx} {E : Env} {U : Nat → Prop} {ev : Operand → FV} {a : Act} {w : World} {nid : Nat} {o : Oper} {c : Bool} {e : Eff}

/-- A new box of these cells. -/
theorem Here.newBox (h : Here K E U ev a w) (hn : ¬ U nid) {cs : List C} {vs : List Value} (arr : Array Value) (ty : TypeId) (harr : arr.toList = vs) (hr : RepCs E w cs vs)
    (hp : e.put = [(nid, .box cs)]) (hd : e.del = []) (hv : e.val = .pb nid 0) :
    Out K E (e.app E.H) (fun x => U x ∨ x = nid) w e.val (.pointer (some ⟨w.heap.size, 0, none⟩)) (pushW w arr ty) := by
  rw [app_one E.H e nid _ hp hd, hv]
  obtain ⟨hl, hW⟩ := h.W.push arr ty hn (ob := .box cs) (fun hl => ⟨w.heap.size, 0, updP_same _ _ _, fun y hz => Nat.lt_irrefl _ (h.W.zlt _ _ hz), ⟨arr, ty, pushW_new w arr ty, by rw [← Array.length_toList, harr, hr.1]; omega⟩, fun j c hj => by
    have hlt : j < vs.length := by rw [hr.1]; exact (List.getElem?_eq_some_iff.1 hj).1
    refine ⟨vs[j], ?_, hr.ones _ (List.getElem_mem hlt), RepC.mono hl (hr.2 j c _ hj (List.getElem?_eq_getElem hlt))⟩
    rw [Nat.zero_add, pushW_cell, ← Array.getElem?_toList, harr, List.getElem?_eq_getElem hlt]⟩)
  exact ⟨_, rfl, hl, hW, by unfold RepFV; exact ⟨w.heap.size, 0, updP_same _ _ _, rfl⟩⟩

theorem ok_alloc (h : Here K E U ev a w) (hn : ¬ U nid) {t : TypeId} (ho : o.op = .alloc t) (he : opEff P ev E.H nid o.op = some (c, e)) : Ok P K E U a w nid o e := by
  rw [ho] at he
  simp only [opEff] at he
  split at he
  · rename_i ti hti
    simp only [Option.some.injEq, Prod.mk.injEq] at he
    obtain ⟨_, rfl⟩ := he
    obtain ⟨z, hz, hzc⟩ := run_zero w hti
    obtain ⟨d, i, z', _, _, _, _, _, _, _, h1⟩ := tiOf_ok hti
    refine Goes.val (w' := pushW w z.cells t) ?_ (h.newBox hn z.cells t hzc (zeros_rep h1) rfl rfl rfl)
    simp [execOp, ho, Instr.alloc, Sem.run_bind, hz, newVar, newRow]
  · cases he
theorem ok_box (h : Here K E U ev a w) (hn : ¬ U nid) {t : TypeId} {x : Operand} (ho : o.op = .box t x) (he : opEff P ev E.H nid o.op = some (c, e)) : Ok P K E U a w nid o e := by
  rw [ho] at he
  simp only [opEff] at he
  split at he
  · rename_i cs hcs
    simp only [Option.some.injEq, Prod.mk.injEq] at he
    obtain ⟨_, rfl⟩ := he
    obtain ⟨vs, h1, h2⟩ := cells_rep hcs (h.e x)
    refine Goes.val (w' := pushW w (a.eval x).cells t) ?_ (h.newBox hn _ t h1 h2 rfl rfl rfl)
    simp [execOp, ho, Instr.box, Sem.run_bind, newVar, newRow]
  · cases he

theorem mkv_rep {ti : TI} {cs : List C} {vs : List Value} (hr : RepCs E w cs vs) (hs : cs.length = ti.size) (h1 : ti.agg = false → ti.size = 1) : RepFV E w (mkv ti.agg cs) (if ti.agg then .agg vs.toArray else vs.getD 0 undef) := by
  unfold mkv
  cases ha : ti.agg with
  | true => simp only [if_true]; unfold RepFV; exact ⟨vs, rfl, hr⟩
  | false =>
    have h2 := h1 ha
    simp only [Bool.false_eq_true, if_false]
    match cs, hr with
    | [], hr => simp at hs; omega
    | [x], hr =>
      obtain ⟨v, us, rfl, h3, h4⟩ := hr.uncons
      simp only [List.getD_cons_zero]
      unfold RepFV
      exact h3
    | x :: y :: r, hr => simp at hs; omega

/-- Cells that lie at b, off: a load of them. -/
theorem load_at (h : Here K E U ev a w) {t : TypeId} {ti : TI} {p : Operand} (ho : o.op = .load t p) (hti : tiOf P t = some ti) (h1 : ti.agg = false → ti.size = 1) {b off : Nat} (hp : a.eval p = .pointer (some ⟨b, off, none⟩))
    {cs : List C} {vs : List Value} (hs : cs.length = ti.size) (hr : RepCs E w cs vs) (hg : ∀ (j : Nat) (u : Value), vs[j]? = some u → w.cell? ⟨b, off + j, none⟩ = some u)
    (hv : e.val = mkv ti.agg cs) (hpt : e.put = []) (hd : e.del = []) : Ok P K E U a w nid o e := by
  refine Goes.val (v := if ti.agg then .agg vs.toArray else vs.getD 0 undef) (w' := w) ?_ (h.same (mkv_rep hr hs h1) hpt hd hv)
  have := run_loadVar' w hti b off vs (hr.1.trans hs) h1 hg
  simp [execOp, ho, Instr.loadAt, Instr.sureAddr, hp, Sem.run_bind, this]

/-- Cells that are there one by one. -/
theorem reps_of {cs : List C} {b off : Nat} (hr : ∀ (j : Nat) (c : C), cs[j]? = some c → ∃ u, w.cell? ⟨b, off + j, none⟩ = some u ∧ RepC E w c u) :
    ∃ vs : List Value, RepCs E w cs vs ∧ ∀ (j : Nat) (u : Value), vs[j]? = some u → w.cell? ⟨b, off + j, none⟩ = some u := by
  let vs : List Value := (List.range cs.length).map fun j => (w.cell? ⟨b, off + j, none⟩).getD undef
  have hl : vs.length = cs.length := by simp [vs]
  have hvs : ∀ j c, cs[j]? = some c → vs[j]? = w.cell? ⟨b, off + j, none⟩ := fun j c hc => by
    have hlt : j < cs.length := (List.getElem?_eq_some_iff.1 hc).1
    obtain ⟨u, hu, _⟩ := hr j c hc
    simp [vs, List.getElem?_range hlt, hu]
  refine ⟨vs, ⟨hl, fun j c u hc hu => ?_⟩, fun j v hj => ?_⟩
  · obtain ⟨u', hu', h2⟩ := hr j c hc
    rw [hvs j c hc, hu'] at hu
    cases hu
    exact h2
  · have hlt : j < cs.length := by rw [← hl]; exact (List.getElem?_eq_some_iff.1 hj).1
    rw [← hvs j _ (List.getElem?_eq_getElem hlt)]; exact hj

theorem take_drop_get {α : Type} (l : List α) (j n i : Nat) (x : α) (h : ((l.drop j).take n)[i]? = some x) : i < n ∧ l[j + i]? = some x := by
  have hi : i < n := by
    have := (List.getElem?_eq_some_iff.1 h).1
    simp at this
    omega
  refine ⟨hi, ?_⟩
  rw [List.getElem?_take, if_pos hi, List.getElem?_drop] at h
  exact h

theorem ok_load (h : Here K E U ev a w) {t : TypeId} {p : Operand} (ho : o.op = .load t p) (he : opEff P ev E.H nid o.op = some (c, e)) : Ok P K E U a w nid o e := by
  rw [ho] at he
  simp only [opEff] at he
  have hp := h.e p
  split at he
  · cases he
  rename_i ti hti
  split at he
  · rename_i ob j hev
    rw [hev] at hp
    split at he
    · rename_i cells hH
      split at he
      · rename_i hcond
        obtain ⟨hc, h1⟩ := hcond
        simp only [Option.some.injEq, Prod.mk.injEq] at he
        obtain ⟨_, rfl⟩ := he
        unfold RepFV at hp
        obtain ⟨b, off, hpl, hpv⟩ := hp
        obtain ⟨b', off', hpl', hz, hcl, hcell⟩ := h.W.obj ob _ hH
        rw [hpl] at hpl'
        cases hpl'
        obtain ⟨vs, hvs, hg⟩ := reps_of (E := E) (w := w) (cs := (cells.drop j).take ti.size) (b := b) (off := off + j) (fun i c hi => by
          obtain ⟨_, hg⟩ := take_drop_get _ _ _ _ _ hi
          obtain ⟨u, h2, _, h3⟩ := hcell _ c hg
          exact ⟨u, by rw [Nat.add_assoc]; exact h2, h3⟩)
        exact load_at h ho hti h1 hpv (by simp; omega) hvs hg rfl rfl rfl
      · cases he
    · cases he
  · rename_i ob es i j hev
    rw [hev] at hp
    split at he
    · rename_i fz ty xs hH
      split at he
      · rename_i hcond
        obtain ⟨hes, hc, h1⟩ := hcond
        subst hes
        simp only [Option.some.injEq, Prod.mk.injEq] at he
        obtain ⟨_, rfl⟩ := he
        unfold RepFV at hp
        obtain ⟨b, off, hpl, hpv, hlt⟩ := hp
        rcases h.W.obj ob _ hH with ⟨hv, _⟩ | ⟨b', off', hpl', hz, hcl, hcell⟩
        · rw [hpl] at hv; cases hv
        rw [hpl] at hpl'
        cases hpl'
        obtain ⟨us, hu1, hu2⟩ := hcell i _ (gt_of (hlt _ _ _ hH))
        have hr := enc_rep (E := E) ty _ _ hu1
        refine load_at h ho hti h1 hpv (by simp [enc_length]; omega) ((hr.drop j).take ti.size) (fun k u hk => ?_) rfl rfl rfl
        obtain ⟨_, hg⟩ := take_drop_get _ _ _ _ _ hk
        rw [← hu2 _ u hg]; congr 2; omega
      · cases he
    · cases he
  · rename_i cells hev
    rw [hev] at hp
    split at he
    · rename_i hcond
      obtain ⟨hc, h1⟩ := hcond
      simp only [Option.some.injEq, Prod.mk.injEq] at he
      obtain ⟨_, rfl⟩ := he
      unfold RepFV at hp
      obtain ⟨b, off, hpv, hcell⟩ := hp
      obtain ⟨vs, hvs, hg⟩ := reps_of (E := E) (w := w) (cs := cells.take ti.size) (b := b) (off := off) (fun i c hi => by
        rw [List.getElem?_take] at hi
        split at hi
        · obtain ⟨u, _, h2, h3⟩ := hcell _ c hi
          exact ⟨u, h2, h3⟩
        · cases hi)
      exact load_at h ho hti h1 hpv (by simp; omega) hvs hg rfl rfl rfl
    · cases he
  · cases he

def putsH (ps : List (Nat × Obj)) (H : Hp) : Hp := fun x => match lookL ps x with | some ob => some ob | none => H x
theorem putsH_nil (H : Hp) : putsH [] H = H := rfl
theorem putsH_cons (o : Nat) (ob : Obj) (ps : List (Nat × Obj)) (H : Hp) : putsH ((o, ob) :: ps) H = setH (putsH ps H) o (some ob) := by
  funext x
  unfold putsH setH
  rw [lookL_cons]
  by_cases hx : x = o <;> simp [hx]
theorem app_puts (H : Hp) (e : Eff) (h : e.del = []) : e.app H = putsH e.put H := by
  funext x
  unfold Eff.app putsH
  rw [h]
  cases lookL e.put x <;> simp

/-- A row's elements made read-only: a slice of them is data. -/
theorem WRel.freeze' (hW : WRel K E U w) {o : Nat} {fz : Bool} {t : Ty} {xs : List t.T} (ho : E.H o = some (.row fz t xs)) :
    ∃ E', E'.ρ = E.ρ ∧ E'.H = setH E.H o (some (.row true t xs)) ∧ Le E w E' w ∧ WRel K E' U w ∧
      ∀ (lo n : Nat) (u : Value), RepRow E.ρ w o t.size lo n u → lo + n ≤ xs.length → RepT E'.Z w (.sl t) ((xs.drop lo).take n) [u] := by
  obtain ⟨p, hp⟩ := hW.placed ho
  cases p with
  | virt =>
    obtain ⟨h1, h2⟩ := hW.freezeV ho hp
    refine ⟨⟨E.ρ, E.Z, setH E.H o (some (.row true t xs))⟩, rfl, rfl, h1, h2, fun lo n u hu hle => ?_⟩
    rcases hu with ⟨_, rfl, rfl⟩ | ⟨b, off, x, cap, hb, _⟩
    · unfold RepT; exact ⟨none, 0, by simp, .inl (by simp)⟩
    · rw [hp] at hb; cases hb
  | «at» b off =>
    obtain ⟨h1, h2⟩ := hW.freeze ho hp
    refine ⟨⟨E.ρ, fun k y => E.Z k y ∨ k = b ∧ off ≤ y ∧ y < off + xs.length * t.size, setH E.H o (some (.row true t xs))⟩, rfl, rfl, h1, h2, fun lo n u hu hle => ?_⟩
    rcases hu with ⟨hv, _⟩ | ⟨b', off', x, cap, hb, rfl, hx, hcap, hcl⟩
    · rw [hp] at hv; cases hv
    rw [hp] at hb
    cases hb
    have hlen : ((xs.drop lo).take n).length = n := by simp; omega
    rcases hW.obj o _ ho with ⟨hv, _⟩ | ⟨b', off', hb', hz, hcl', hcell⟩
    · rw [hp] at hv; cases hv
    rw [hp] at hb'
    cases hb'
    unfold RepT
    refine ⟨_, cap, by rw [hlen], ?_⟩
    by_cases hn : n = 0
    · subst hn; exact .inl (by simp)
    · refine .inr ⟨b, x, rfl, by rw [hlen]; exact hcap, fun i y hi => ?_⟩
      obtain ⟨hin, hg⟩ := take_drop_get _ _ _ _ _ hi
      obtain ⟨us, hu1, hu2⟩ := hcell _ y hg
      refine ⟨us, RepT.mono h1.Z h1.k t _ _ hu1, fun j u hu => ?_⟩
      have h3 := hu2 j u hu
      have h4 : j < t.size := by rw [← RepT.length t _ _ hu1]; exact (List.getElem?_eq_some_iff.1 hu).1
      have hxe := hx hn
      have hmul : (lo + i) * t.size = lo * t.size + i * t.size := Nat.add_mul _ _ _
      have hadr : x + (i * t.size + j) = off + ((lo + i) * t.size + j) := by omega
      have hup : (lo + i + 1) * t.size ≤ xs.length * t.size := Nat.mul_le_mul_right _ (by omega)
      rw [Nat.add_mul, Nat.one_mul] at hup
      refine ⟨.inr ⟨rfl, by omega, by omega⟩, by rw [hadr]; exact h3⟩

/-- All rows that these cells lead to made read-only: the cells are data. -/
theorem frz_ok : ∀ {xc : List C} {E : Env} {xd : List C} {ps : List (Nat × Obj)}, WRel K E U w → frz E.H xc = some (xd, ps) →
    ∃ E', E'.ρ = E.ρ ∧ E'.H = putsH ps E.H ∧ Le E w E' w ∧ WRel K E' U w ∧ (∀ x ob, lookL ps x = some ob → ∃ fz t xs, E.H x = some (.row fz t xs) ∧ ob = .row true t xs) ∧
      (∀ x, x ∉ refs xc → lookL ps x = none) ∧ xd.length = xc.length ∧
      ∀ vs : List Value, RepCs E w xc vs → RepCs E' w xd vs
  | [], E, xd, ps, hW, h => by
    simp only [frz, Option.some.injEq, Prod.mk.injEq] at h
    obtain ⟨rfl, rfl⟩ := h
    exact ⟨E, rfl, rfl, Le.refl _ _, hW, fun x ob h => by simp [lookL] at h, fun x _ => rfl, rfl, fun vs h => h⟩
  | .all o es :: r, E, xd, ps, hW, h => by
    simp only [frz] at h
    split at h
    · rename_i fz t xs hH
      split at h
      · rename_i hes
        obtain rfl := Nat.eq_of_beq_eq_true hes
        split at h
        · rename_i ds ps' hr
          simp only [Option.some.injEq, Prod.mk.injEq] at h
          obtain ⟨rfl, rfl⟩ := h
          obtain ⟨E1, e1, e2, h1, h2, h3, h4, hlen, h5⟩ := frz_ok hW hr
          have hcur : ∃ fz2, E1.H o = some (.row fz2 t xs) := by
            rw [e2]; unfold putsH
            cases hl : lookL ps' o with
            | none => exact ⟨fz, hH⟩
            | some ob =>
              obtain ⟨fz2, t2, xs2, h7, rfl⟩ := h3 o ob hl
              rw [hH] at h7
              cases h7
              exact ⟨true, rfl⟩
          obtain ⟨fz2, hcur⟩ := hcur
          obtain ⟨E2, e3, e4, h6, h7, h8⟩ := h2.freeze' hcur
          refine ⟨E2, e3.trans e1, by rw [e4, e2, putsH_cons], h1.trans h6, h7, fun x ob hx => ?_, fun x hx => ?_, by simp [hlen], fun vs hvs => ?_⟩
          · rw [lookL_cons] at hx
            by_cases e : x = o
            · subst e; simp at hx; subst hx; exact ⟨fz, t, xs, hH, rfl⟩
            · rw [if_neg e] at hx; exact h3 x ob hx
          · simp only [refs, List.mem_cons, not_or] at hx
            rw [lookL_cons, if_neg hx.1]
            exact h4 x hx.2
          · obtain ⟨v, us, rfl, hv, hus⟩ := hvs.uncons
            refine RepCs.cons ?_ ((h5 us hus).mono h6)
            obtain ⟨n, hn1, hn2⟩ := hv
            have hn := hn2 _ _ _ hH
            subst hn
            have := h8 0 xs.length v (by rw [e1]; exact hn1) (by omega)
            simp only [List.drop_zero, List.take_length] at this
            exact this
        · cases h
      · cases h
    · cases h
  | .part o es lo n :: r, E, xd, ps, hW, h => by
    simp only [frz] at h
    split at h
    · rename_i fz t xs hH
      split at h
      · rename_i hes
        obtain rfl := Nat.eq_of_beq_eq_true hes
        split at h
        · rename_i ds ps' hr
          simp only [Option.some.injEq, Prod.mk.injEq] at h
          obtain ⟨rfl, rfl⟩ := h
          obtain ⟨E1, e1, e2, h1, h2, h3, h4, hlen, h5⟩ := frz_ok hW hr
          have hcur : ∃ fz2, E1.H o = some (.row fz2 t xs) := by
            rw [e2]; unfold putsH
            cases hl : lookL ps' o with
            | none => exact ⟨fz, hH⟩
            | some ob =>
              obtain ⟨fz2, t2, xs2, h7, rfl⟩ := h3 o ob hl
              rw [hH] at h7
              cases h7
              exact ⟨true, rfl⟩
          obtain ⟨fz2, hcur⟩ := hcur
          obtain ⟨E2, e3, e4, h6, h7, h8⟩ := h2.freeze' hcur
          refine ⟨E2, e3.trans e1, by rw [e4, e2, putsH_cons], h1.trans h6, h7, fun x ob hx => ?_, fun x hx => ?_, by simp [hlen], fun vs hvs => ?_⟩
          · rw [lookL_cons] at hx
            by_cases e : x = o
            · subst e; simp at hx; subst hx; exact ⟨fz, t, xs, hH, rfl⟩
            · rw [if_neg e] at hx; exact h3 x ob hx
          · simp only [refs, List.mem_cons, not_or] at hx
            rw [lookL_cons, if_neg hx.1]
            exact h4 x hx.2
          · obtain ⟨v, us, rfl, hv, hus⟩ := hvs.uncons
            refine RepCs.cons ?_ ((h5 us hus).mono h6)
            exact h8 lo n v (by rw [e1]; exact hv.1) (hv.2 _ _ _ hH)
        · cases h
      · cases h
    · cases h
  | .v x :: r, E, xd, ps, hW, h => by
    simp only [frz] at h
    split at h
    · rename_i ds ps' hr
      simp only [Option.some.injEq, Prod.mk.injEq] at h
      obtain ⟨rfl, rfl⟩ := h
      obtain ⟨E1, e1, e2, h1, h2, h3, h4, hlen, h5⟩ := frz_ok hW hr
      refine ⟨E1, e1, e2, h1, h2, h3, fun y hy => h4 y (by simpa [refs] using hy), by simp [hlen], fun vs hvs => ?_⟩
      obtain ⟨v, us, rfl, hv, hus⟩ := hvs.uncons
      exact RepCs.cons (RepC.mono h1 hv) (h5 us hus)
    · cases h
  | .e x :: r, E, xd, ps, hW, h => by
    simp only [frz] at h
    split at h
    · rename_i ds ps' hr
      simp only [Option.some.injEq, Prod.mk.injEq] at h
      obtain ⟨rfl, rfl⟩ := h
      obtain ⟨E1, e1, e2, h1, h2, h3, h4, hlen, h5⟩ := frz_ok hW hr
      refine ⟨E1, e1, e2, h1, h2, h3, fun y hy => h4 y (by simpa [refs] using hy), by simp [hlen], fun vs hvs => ?_⟩
      obtain ⟨v, us, rfl, hv, hus⟩ := hvs.uncons
      exact RepCs.cons (RepC.mono h1 hv) (h5 us hus)
    · cases h
  | .sl t x :: r, E, xd, ps, hW, h => by
    simp only [frz] at h
    split at h
    · rename_i ds ps' hr
      simp only [Option.some.injEq, Prod.mk.injEq] at h
      obtain ⟨rfl, rfl⟩ := h
      obtain ⟨E1, e1, e2, h1, h2, h3, h4, hlen, h5⟩ := frz_ok hW hr
      refine ⟨E1, e1, e2, h1, h2, h3, fun y hy => h4 y (by simpa [refs] using hy), by simp [hlen], fun vs hvs => ?_⟩
      obtain ⟨v, us, rfl, hv, hus⟩ := hvs.uncons
      exact RepCs.cons (RepC.mono h1 hv) (h5 us hus)
    · cases h
end
end Eng
end Go.Proofs.Ytjhcdndmbilogaa
