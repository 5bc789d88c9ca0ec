/-
  The engine, part 11: composite literals and conversions; all operations together.
  CONDITIONS: those that each theorem names.
-/
import Derived.Test.YtjhcdndmbilogaaE10
import Derived.Laws.Tables
namespace Go.Proofs.Ytjhcdndmbilogaa
namespace Eng
open Go Go.RowKit
set_option linter.unusedVariables false
set_option linter.unusedSimpArgs false

section
variable {P : Program} {K : Ctx} {E : Env} {U : Nat → Prop} {ev : Operand → FV} {a : Act} {w : World} {nid : Nat} {o : Oper} {c : Bool} {e : Eff}

theorem placesOf_ok : ∀ (fs : List Field) {places : List (Nat × Nat)}, placesOf P (fs.map fun f => (f.offset, f.type)) = some places → fs.mapM (fun f => (P.info? f.type).map fun i => (f.offset, i.size)) = some places
  | [], places, h => by
    simp only [List.map_nil, placesOf, Option.some.injEq] at h
    subst h
    rfl
  | f :: fs, places, h => by
    simp only [List.map_cons, placesOf] at h
    split at h
    · rename_i ti l hti hl
      cases h
      obtain ⟨d, i, z, hu, hi, _, _, hs, _⟩ := tiOf_ok hti
      have ih := placesOf_ok fs hl
      simp only [List.mapM_cons, hi, Option.map_some, ih, hs]
      rfl
    · cases h


theorem fill_ok {places : List (Nat × Nat)} (h : Here K E U ev a w) : ∀ (parts : List (Nat × Operand)) {cs res : List C} {arr : Array Value}, RepCs E w cs arr.toList → fillC places cs (parts.map fun p => (p.1, (ev p.2).cells)) = some res →
    ∃ arr', Instr.fill (places.toArray[·]?) arr (parts.map fun p => (p.1, a.eval p.2)) = some arr' ∧ RepCs E w res arr'.toList
  | [], cs, res, arr, hc, hf => by
    simp only [List.map_nil, fillC, Option.some.injEq] at hf
    subst hf
    exact ⟨arr, rfl, hc⟩
  | (i, x) :: parts, cs, res, arr, hc, hf => by
    simp only [List.map_cons, fillC] at hf
    split at hf
    · rename_i off size xc hp hx
      split at hf
      · rename_i hcond
        obtain ⟨vs, h1, hvr⟩ := cells_rep hx (h.e x)
        have h2 := hvr.1
        have hcl : arr.size = cs.length := by rw [← hc.1, Array.length_toList]
        obtain ⟨g1, g2⟩ := Great.foldl_set off (a.eval x).cells.toList 0 arr
        have hsz : (a.eval x).cells.size = size := by rw [← Array.length_toList, h1, h2, hcond.1]
        have hfit : off + xc.length ≤ cs.length := by omega
        have hstep : RepCs E w (splice cs off xc) (((a.eval x).cells.toList.zipIdx 0).foldl (fun cs (y : Value × Nat) => cs.setIfInBounds (off + y.2) y.1) arr).toList := by
          refine ⟨by rw [Array.length_toList, g1, hcl, splice_length hfit], fun j c u hj hu => ?_⟩
          rw [splice_get hfit] at hj
          rw [Array.getElem?_toList, g2 j, h1, h2, hcl] at hu
          simp only [Nat.add_zero] at hu
          by_cases hin : off ≤ j ∧ j < off + xc.length
          · rw [if_pos hin] at hj
            rw [if_pos ⟨hin.1, hin.2, by omega⟩] at hu
            exact hvr.2 (j - off) c u hj hu
          · rw [if_neg hin] at hj
            rw [if_neg (by omega), ← Array.getElem?_toList] at hu
            exact hc.2 j c u hj hu
        obtain ⟨arr', h5, h6⟩ := fill_ok h parts hstep hf
        refine ⟨arr', ?_, h6⟩
        simp only [List.map_cons]
        unfold Instr.fill
        have hpl : places.toArray[i]? = some (off, size) := by simpa using hp
        simp only [hpl, hsz]
        rw [if_neg (by simp; omega)]
        rw [← h5]
        congr 1
        rw [← Array.foldl_toList, Array.toList_zipIdx]
      · cases hf
    · cases hf

theorem ok_build (h : Here K E U ev a w) {t : TypeId} {parts : Array (Nat × Operand)} (ho : o.op = .build t parts) (he : opEff P ev E.H nid o.op = some (c, e)) : Ok P K E U a w nid o e := by
  rw [ho] at he
  simp only [opEff] at he
  split at he
  · rename_i ti hti
    obtain ⟨d, i, z, hu, hi, hz, hzc, hsz, _, hk, h1z⟩ := tiOf_ok hti
    split at he
    · rename_i fs hks
      rw [hks] at hk
      obtain ⟨gs, rfl, hgs⟩ := tk_struct hk
      split at he
      · rename_i places hpl
        split at he
        · rename_i cs hcs
          simp only [Option.some.injEq, Prod.mk.injEq] at he
          obtain ⟨_, rfl⟩ := he
          rw [← hgs] at hpl
          have hpl' := placesOf_ok _ hpl
          have hz0 : RepCs E w (ti.zero.map fun x => C.v x) z.cells.toList := by rw [hzc]; exact zeros_rep h1z
          obtain ⟨arr, hfill, hrep⟩ := fill_ok h parts.toList hz0 hcs
          have hb : P.built t (parts.map fun (i, x) => (i, a.eval x)).toList = some arr := by
            unfold Program.built
            simp only [hi, hu, hz, hpl']
            rw [← hfill]
            congr 1
            simp
          have hrun := run_build (P := P) w t (parts.map fun (i, x) => (i, a.eval x)) arr hb
          refine Goes.val (w' := w) (v := .agg arr) (by simp [execOp, ho, hrun]) (h.same ?_ rfl rfl rfl)
          unfold RepFV
          exact ⟨arr.toList, by simp, hrep⟩
        · cases he
      · cases he
    · cases he
  · cases he

theorem cat_ok {es : Nat} (h : Here K E U ev a w) : ∀ (xs : List Operand) {cs : List C}, catC es (xs.map fun x => (ev x).cells) = some cs →
    cs.length = xs.length * es ∧ (∀ v ∈ xs.map a.eval, v.cells.size = es) ∧ RepCs E w cs ((xs.map a.eval).flatMap fun v => v.cells.toList)
  | [], cs, hc => by
    simp only [List.map_nil, catC, Option.some.injEq] at hc
    subst hc
    exact ⟨by simp, (fun v hv => by simp at hv), RepCs.nil⟩
  | x :: xs, cs, hc => by
    simp only [List.map_cons] at hc
    cases hx : (ev x).cells with
    | none => rw [hx] at hc; simp [catC] at hc
    | some xc =>
      rw [hx] at hc
      simp only [catC] at hc
      split at hc
      · rename_i hl
        have hl := Nat.eq_of_beq_eq_true hl
        split at hc
        · rename_i l hl2
          cases hc
          obtain ⟨vs, h1, h2⟩ := cells_rep hx (h.e x)
          obtain ⟨i1, i2, i3⟩ := cat_ok h xs hl2
          refine ⟨by simp only [List.length_append, List.length_cons, Nat.add_mul, Nat.one_mul]; omega, fun v hv => ?_, ?_⟩
          · simp only [List.map_cons, List.mem_cons] at hv
            rcases hv with rfl | hv
            · rw [← Array.length_toList, h1, h2.1, hl]
            · exact i2 v hv
          · simp only [List.map_cons, List.flatMap_cons]
            rw [h1]
            exact h2.append i3
        · cases hc
      · cases hc

theorem decN_rep {t : Ty} : ∀ (n : Nat) {cs : List C} {xs : List t.T} {vs : List Value}, decN t n cs = some xs → RepCs E w cs vs →
    xs.length = n ∧ cs.length = n * t.size ∧ ∀ (i : Nat) (x : t.T), xs[i]? = some x → ∃ us, RepT E.Z w t x us ∧ ∀ (j : Nat) (u : Value), us[j]? = some u → vs[i * t.size + j]? = some u
  | 0, [], xs, vs, h, hr => by
    simp only [decN, Option.some.injEq] at h
    subst h
    exact ⟨rfl, by simp, fun i x hx => by simp at hx⟩
  | 0, _ :: _, xs, vs, h, hr => by simp [decN] at h
  | n + 1, cs, xs, vs, h, hr => by
    unfold decN at h
    split at h
    · rename_i x hx
      split at h
      · rename_i ys hys
        cases h
        obtain ⟨h1, h2, h3⟩ := decN_rep n hys (hr.drop t.size)
        have h0 := dec_rep t hx (hr.take t.size)
        have hl0 := RepT.length _ _ _ h0
        rw [List.length_take, hr.1] at hl0
        refine ⟨by simp [h1], by rw [List.length_drop] at h2; rw [Nat.add_mul, Nat.one_mul]; omega, fun i y hy => ?_⟩
        cases i with
        | zero =>
          simp at hy
          subst hy
          refine ⟨_, h0, fun j u hu => ?_⟩
          rw [List.getElem?_take] at hu
          split at hu
          · simpa using hu
          · cases hu
        | succ i =>
          simp at hy
          obtain ⟨us, h4, h5⟩ := h3 i y hy
          refine ⟨us, h4, fun j u hu => ?_⟩
          have := h5 j u hu
          rw [List.getElem?_drop] at this
          rw [show (i + 1) * t.size + j = t.size + (i * t.size + j) by rw [Nat.add_mul]; omega]
          exact this
      · cases h
    · cases h

theorem ok_buildSlice (h : Here K E U ev a w) (hn : ¬ U nid) {t : TypeId} {len : Nat} {parts : Array (Nat × Operand)} (ho : o.op = .buildSlice t len parts) (he : opEff P ev E.H nid o.op = some (c, e)) : Ok P K E U a w nid o e := by
  rw [ho] at he
  simp only [opEff] at he
  split at he
  · rename_i et te hel
    obtain ⟨hu, hte⟩ := elemOf_ok hel
    split at he
    · rename_i ty hty
      split at he
      · rename_i hcond
        obtain ⟨htysz, hes, hidx, hmax⟩ := hcond
        split at he
        · rename_i cs hcs
          split at he
          · rename_i ds ps hfrz
            split at he
            · rename_i xs hxs
              simp only [Option.some.injEq, Prod.mk.injEq] at he
              obtain ⟨_, rfl⟩ := he
              have hcs' : catC te.size ((parts.toList.map (·.2)).map fun x => (ev x).cells) = some cs := by rw [List.map_map]; exact hcs
              obtain ⟨c1, c2, c3⟩ := cat_ok h (parts.toList.map (·.2)) hcs'
              have hplen : parts.toList.length = len := by have := congrArg List.length hidx; simpa using this
              have hcsl : cs.length = len * te.size := by rw [c1, List.length_map, hplen]
              obtain ⟨E1, e1, e2, hl1, hW1, _, hno, hdl, hrep⟩ := frz_ok h.W hfrz
              have hrep' := hrep _ c3
              obtain ⟨hxl, _, hxc⟩ := decN_rep len hxs hrep'
              have hpart : (parts.toList.map fun p => (p.1, a.eval p.2)) = (((parts.toList.map (·.2)).map a.eval).zipIdx 0).map fun x => (x.2, x.1) := by
                apply List.ext_getElem?
                intro k
                simp only [List.getElem?_map, List.getElem?_zipIdx]
                cases hk : parts.toList[k]? with
                | none => simp
                | some p =>
                  have hk2 : k < len := by rw [← hplen]; exact (List.getElem?_eq_some_iff.1 hk).1
                  have := congrArg (·[k]?) hidx
                  simp only [List.getElem?_map, hk, List.getElem?_range hk2, Option.map_some, Option.some.injEq] at this
                  simp [this]
              obtain ⟨z2, hz2, hz2c⟩ := run_zero w hte
              have hfill : ∀ cells : Array Value, cells.size = len * te.size → Instr.fill (fun i => some (i * te.size, te.size)) cells (parts.toList.map fun p => (p.1, a.eval p.2)) = some (((parts.toList.map (·.2)).map a.eval).flatMap fun v => v.cells.toList).toArray := fun cells hcell => by
                rw [hpart]
                exact Great.fill_whole (Nat.pos_of_ne_zero hes) _ cells c2 (by rw [hcell]; simp [hplen])
              let flatv := (((parts.toList.map (·.2)).map a.eval).flatMap fun v => v.cells.toList)
              have hflat : flatv.length = len * te.size := by show (((parts.toList.map (·.2)).map a.eval).flatMap fun v => v.cells.toList).length = _; rw [c3.1, hcsl]
              obtain ⟨hl2, hW2⟩ := hW1.newRow hn (fz := false) (t := ty) (xs := xs) flatv.toArray et (by rw [hxl, ← htysz]; simp [hflat]) (fun i x hx => by
                obtain ⟨us, h3, h4⟩ := hxc i x hx
                exact ⟨us, h3, fun j u hu => by rw [List.getElem?_toArray]; exact h4 j u hu⟩)
              refine Goes.val (w' := pushW w flatv.toArray et) (v := .slice (some ⟨w.heap.size, 0, none⟩) len len) ?_ ?_
              · by_cases h0 : len * te.size = 0
                · have hf0 := hfill ((Array.range (len * te.size)).map fun k => (#[] : Array Value)[k % 0]!) (by simp)
                  simp [execOp, ho, Instr.buildSlice, run_und w hu, run_size w hte, h0, newRow, hmax] at hf0 ⊢
                  rw [hf0]
                  simp [flatv]
                · have hf0 := hfill ((Array.range (len * te.size)).map fun k => z2.cells[k % z2.cells.size]!) (by simp)
                  have hmax' : ¬ (16777216 < len * te.size) := by omega
                  have h0' : ¬ (len = 0 ∨ te.size = 0) := by
                    rintro (h | h) <;> exact h0 (by simp [h])
                  simp [execOp, ho, Instr.buildSlice, run_und w hu, run_size w hte, newRow, hmax', hz2] at hf0 ⊢
                  rw [if_neg h0]
                  simp [hz2, hf0, flatv]
              · rw [app_puts E.H _ rfl, putsH_cons, ← e2]
                refine ⟨_, rfl, hl1.trans hl2, hW2, RepFV.ofC ⟨len, RepRow.allC (updP_same _ _ _) (Nat.le_refl _) ⟨flatv.toArray, et, pushW_new _ _ _, by simp [hflat]⟩, fun fz' t' xs' hh => ?_⟩⟩
                simp only [setH_same, Option.some.injEq] at hh
                cases hh
                exact hxl.symm
            · cases he
          · cases he
        · cases he
      · cases he
    · cases he
  · cases he

theorem ok_convert (h : Here K E U ev a w) {src dst : TypeId} {x : Operand} (ho : o.op = .convert src dst x) (he : opEff P ev E.H nid o.op = some (c, e)) : Ok P K E U a w nid o e := by
  rw [ho] at he
  simp only [opEff] at he
  have hx := h.e x
  split at he
  · rename_i k0 n hev
    rw [hev] at hx
    split at he
    · rename_i ti si hti hsi
      split at he
      · rename_i k k1 hks hks1
        obtain ⟨d, i, z, hu, _, _, _, _, _, hk, _⟩ := tiOf_ok hti
        obtain ⟨d1, i1, z1, hu1, _⟩ := tiOf_ok hsi
        rw [hks] at hk
        obtain rfl := tk_int hk
        simp only [Option.some.injEq, Prod.mk.injEq] at he
        obtain ⟨_, rfl⟩ := he
        refine Goes.val (w' := w) ?_ (h.same (RepFV.ofV (r := .int k (k.wrap n)) rfl) rfl rfl rfl)
        have hk' : P.intKind dst = k := by simp [Program.intKind, hu]
        have := run_convert_int (P := P) w src dst k0 n (by rw [hu1]; rfl) (by rw [hk']; exact hu)
        rw [hk'] at this
        simp [execOp, ho, hx.v_eq, this]
      · cases he
    · cases he
  · cases he

/-- Each operation of opEff does so in the model. -/
theorem ok_op (h : Here K E U ev a w) (hn : ¬ U nid) (hc : c = true) (he : opEff P ev E.H nid o.op = some (c, e)) : Ok P K E U a w nid o e := by
  cases ho : o.op with
  | move x => exact ok_move h (.inl ho) he
  | assign x => exact ok_move h (.inr ho) he
  | pick x y z => exact ok_pick h ho he
  | alloc t => exact ok_alloc h hn ho he
  | box t x => exact ok_box h hn ho he
  | load t p => exact ok_load h ho he
  | store t p x => exact ok_store h ho he
  | build t ps => exact ok_build h ho he
  | buildSlice t n ps => exact ok_buildSlice h hn ho he
  | nilCheck x => exact ok_nilCheck h ho he
  | binOp op t x y yt => exact ok_binOp h ho hc he
  | unOp op t x => exact ok_unOp h ho he
  | convert s d x => exact ok_convert h ho he
  | makeFunc f first caps => cases f with
    | func f => exact ok_makeFunc h ho he
    | _ => rw [ho] at he; simp [opEff] at he
  | extract x i => exact ok_extract h ho he
  | field t x f => exact ok_field h ho he
  | fieldAddr t x f => exact ok_fieldAddr h ho he
  | indexAddr t x i => exact ok_indexAddr h ho hc he
  | index t x i => exact ok_index h ho hc he
  | slice t x lo hi mx => exact ok_slice h ho hc he
  | makeSlice t l m => exact ok_makeSlice h hn ho hc he
  | call cl =>
    obtain ⟨callee, args, argTypes⟩ := cl
    cases callee with
    | builtin b => cases b with
      | len => exact ok_len h ho he
      | append => exact ok_append h hn ho hc he
      | max => exact ok_max h ho he
      | min => exact ok_min h ho he
      | _ => rw [ho] at he; simp [opEff] at he
    | _ => rw [ho] at he; simp [opEff] at he
  | _ => rw [ho] at he; simp [opEff] at he
end
end Eng
end Go.Proofs.Ytjhcdndmbilogaa
