/-
  The engine, part 6: stores, and the operations on values.
  CONDITIONS: those that each theorem names.
-/
import Derived.Test.YtjhcdndmbilogaaE5
import Derived.Laws.StructEq
import Derived.Laws.Small
import Derived.Laws.StructEq
import Derived.WideLaws
namespace Go.Proofs.Ytjhcdndmbilogaa
namespace Eng
open Go Go.RowKit
set_option linter.unusedVariables false
set_option linter.unusedSimpArgs false

theorem splice_length {α : Type} {l x : List α} {j : Nat} (h : j + x.length ≤ l.length) : (splice l j x).length = l.length := by
  simp [splice]; omega
theorem splice_get {α : Type} {l x : List α} {j : Nat} (h : j + x.length ≤ l.length) (i : Nat) : (splice l j x)[i]? = if j ≤ i ∧ i < j + x.length then x[i - j]? else l[i]? := by
  unfold splice
  by_cases h1 : i < j
  · rw [if_neg (by omega), List.append_assoc, List.getElem?_append_left (by simp; omega), List.getElem?_take, if_pos h1]
  · by_cases h2 : i < j + x.length
    · rw [if_pos ⟨by omega, h2⟩, List.getElem?_append_left (by simp; omega), List.getElem?_append_right (by simp; omega)]
      simp only [List.length_take]
      rw [show min j l.length = j by omega]
    · rw [if_neg (by omega), List.getElem?_append_right (by simp; omega)]
      simp only [List.length_append, List.length_take, List.getElem?_drop]
      rw [show min j l.length = j by omega]
      congr 1
      omega


theorem RepCs.splice {E : Env} {w : World} {cs ds : List C} {vs us : List Value} (h : RepCs E w cs vs) (k : RepCs E w ds us) (j : Nat) : RepCs E w (Eng.splice cs j ds) (Eng.splice vs j us) := by
  unfold Eng.splice
  rw [← k.1]
  exact ((h.take j).append k).append (h.drop _)
section
variable {P : Program} {K : Ctx} {E : Env} {U : Nat → Prop} {ev : Operand → FV} {a : Act} {w : World} {nid : Nat} {o : Oper} {c : Bool} {e : Eff}

theorem cells_get {vs : List Value} {b x n y : Nat} (h : Cells w b n) (hx : x + vs.length ≤ n) :
    (w.setCells b x vs).cell? ⟨b, y, none⟩ = if x ≤ y ∧ y < x + vs.length then vs[y - x]? else w.cell? ⟨b, y, none⟩ := setCells_cell vs h hx y

theorem ok_store (h : Here K E U ev a w) {t : TypeId} {p x : Operand} (ho : o.op = .store t p x) (he : opEff P ev E.H nid o.op = some (c, e)) : Ok P K E U a w nid o e := by
  rw [ho] at he
  simp only [opEff] at he
  have hp := h.e p
  split at he
  · rename_i ti xc hti hxc
    obtain ⟨vs, hv1, hvr⟩ := cells_rep hxc (h.e x)
    have hv2 := hvr.1
    have hv4 := hvr.ones
    split at he
    · rename_i ob j hev
      rw [hev] at hp
      split at he
      · rename_i cells hH
        split at he
        · rename_i hcond
          obtain ⟨hsz, hfit⟩ := hcond
          simp only [Option.some.injEq, Prod.mk.injEq] at he
          obtain ⟨_, rfl⟩ := he
          unfold RepFV at hp
          obtain ⟨b, off, hpl, hpv⟩ := hp
          obtain ⟨b', off', hpl', hz, hcl, hcell⟩ := h.W.obj ob _ hH
          rw [hpl] at hpl'
          cases hpl'
          have hbound : off + j + vs.length ≤ off + cells.length := by omega
          have hst := run_storeVar' w hti b (off + j) (a.eval x) vs hv1 (hv2.trans hsz) (hcl.le hbound) hv4
          have honly : OnlyB b w (w.setCells b (off + j) vs) := setCells_only vs
          refine Goes.skip (w' := w.setCells b (off + j) vs) (by simp [execOp, ho, Instr.storeAt, Instr.sureAddr, hpv, Sem.run_bind, hst]) ?_
          have hfit' : j + xc.length ≤ cells.length := hfit
          obtain ⟨hl, hW⟩ := h.W.write (ob' := .box (splice cells j xc)) hH hpl hz honly (fun _ _ _ h => by cases h) (fun hl => ⟨b, off, hpl, hz, by rw [splice_length hfit']; exact honly.cells _ _ hcl, fun i ci hi => by
            rw [splice_get hfit'] at hi
            rw [cells_get hcl hbound, hv2]
            by_cases hin : j ≤ i ∧ i < j + xc.length
            · rw [if_pos hin] at hi
              rw [if_pos (by omega), show off + i - (off + j) = i - j by omega]
              have hlt : i - j < vs.length := by omega
              exact ⟨vs[i - j], List.getElem?_eq_getElem hlt, hv4 _ (List.getElem_mem hlt), RepC.mono hl (hvr.2 (i - j) ci _ hi (List.getElem?_eq_getElem hlt))⟩
            · rw [if_neg hin] at hi
              rw [if_neg (by omega)]
              obtain ⟨u, h1, h2, h3⟩ := hcell i ci hi
              exact ⟨u, h1, h2, RepC.mono hl h3⟩⟩)
          refine ⟨_, ?_, hl, hW.used_mono (fun _ h => .inl h), by unfold RepFV; trivial⟩
          rw [app_one E.H _ ob _ rfl rfl]
        · cases he
      · cases he
    · rename_i ob es i j hev
      rw [hev] at hp
      split at he
      · rename_i ty xs hH
        split at he
        · rename_i hcond
          obtain ⟨rfl, hnot, hsz, hfit⟩ := hcond
          split at he
          · rename_i xd ps hfrz
            split at he
            · rename_i y hy
              simp only [Option.some.injEq, Prod.mk.injEq] at he
              obtain ⟨_, rfl⟩ := he
              obtain ⟨E1, e1, e2, hl1, hW1, _, hno, hxl, hrep⟩ := frz_ok h.W hfrz
              unfold RepFV at hp
              obtain ⟨b, off, hpl, hpv, hi0⟩ := hp
              have hi := hi0 _ _ _ hH
              have hH1 : E1.H ob = some (.row false ty xs) := by rw [e2]; unfold putsH; rw [hno ob hnot]; exact hH
              have hpl1 : E1.ρ ob = some (.at b off) := by rw [e1]; exact hpl
              rcases hW1.obj ob _ hH1 with ⟨hvv, _⟩ | ⟨b', off', hpl', hnz, hcl, hcell⟩
              · rw [hpl1] at hvv; cases hvv
              rw [hpl1] at hpl'
              cases hpl'
              have hnz' : ∀ y, ¬ E1.Z b y := fun y hy => by have := (hnz y hy).1; cases this
              have hmul : i * ty.size + ty.size ≤ xs.length * ty.size := by
                have : (i + 1) * ty.size ≤ xs.length * ty.size := Nat.mul_le_mul_right _ hi
                rw [Nat.add_mul, Nat.one_mul] at this
                exact this
              have hbound : off + (i * ty.size + j) + vs.length ≤ off + xs.length * ty.size := by omega
              have hst := run_storeVar' w hti b (off + (i * ty.size + j)) (a.eval x) vs hv1 (hv2.trans hsz) (hcl.le hbound) hv4
              have honly : OnlyB b w (w.setCells b (off + (i * ty.size + j)) vs) := setCells_only vs
              refine Goes.skip (w' := w.setCells b (off + (i * ty.size + j)) vs) (by simp [execOp, ho, Instr.storeAt, Instr.sureAddr, hpv, Sem.run_bind, hst]) ?_
              obtain ⟨us, hu1, hu2⟩ := hcell i _ (gt_of hi)
              have hul := RepT.length _ _ _ hu1
              have hnew := dec_rep ty hy ((enc_rep (E := E1) ty _ _ hu1).splice (hrep vs hvr) j)
              obtain ⟨hl, hW⟩ := hW1.write (ob' := .row false ty (xs.set i y)) hH1 hpl1 hnz' honly (fun fz' t' xs' h => by cases h; exact ⟨_, _, _, rfl, by simp⟩) (fun hl => Or.inr ⟨b, off, hpl1, fun y hy => (hnz' y hy).elim, by rw [List.length_set]; exact honly.cells _ _ hcl, fun k z hk => by
                rw [List.getElem?_set] at hk
                by_cases e : i = k
                · subst e
                  rw [if_pos rfl, if_pos hi] at hk
                  cases hk
                  refine ⟨_, RepT.mono hl.Z hl.k ty _ _ hnew, fun m u hm => ?_⟩
                  rw [cells_get hcl hbound, hv2]
                  rw [splice_get (by omega)] at hm
                  by_cases hin : j ≤ m ∧ m < j + vs.length
                  · rw [if_pos hin] at hm
                    rw [if_pos (by omega), show off + (i * ty.size + m) - (off + (i * ty.size + j)) = m - j by omega]
                    exact hm
                  · rw [if_neg hin] at hm
                    rw [if_neg (by omega)]
                    exact hu2 m u hm
                · rw [if_neg e] at hk
                  obtain ⟨us', h1, h2⟩ := hcell k z hk
                  refine ⟨us', RepT.mono hl.Z hl.k ty _ _ h1, fun m u hm => ?_⟩
                  have hm' : m < ty.size := by rw [← RepT.length _ _ _ h1]; exact (List.getElem?_eq_some_iff.1 hm).1
                  rw [cells_get hcl hbound, if_neg ?_]
                  · exact h2 m u hm
                  · rcases Nat.lt_or_gt_of_ne e with hlt | hgt
                    · have : (i + 1) * ty.size ≤ k * ty.size := Nat.mul_le_mul_right _ hlt
                      rw [Nat.add_mul, Nat.one_mul] at this
                      omega
                    · have : (k + 1) * ty.size ≤ i * ty.size := Nat.mul_le_mul_right _ hgt
                      rw [Nat.add_mul, Nat.one_mul] at this
                      omega⟩)
              refine ⟨_, ?_, hl1.trans hl, hW.used_mono (fun _ h => .inl h), by unfold RepFV; trivial⟩
              rw [app_puts E.H _ rfl, putsH_cons, e2]
            · cases he
          · cases he
        · cases he
      · cases he
    · cases he
  · cases he
end

section
variable {P : Program} {K : Ctx} {E : Env} {U : Nat → Prop} {ev : Operand → FV} {a : Act} {w : World} {nid : Nat} {o : Oper} {c : Bool} {e : Eff}

theorem ok_nilCheck (h : Here K E U ev a w) {x : Operand} (ho : o.op = .nilCheck x) (he : opEff P ev E.H nid o.op = some (c, e)) : Ok P K E U a w nid o e := by
  rw [ho] at he
  simp only [opEff] at he
  have hx := h.e x
  split at he
  · rename_i ob j hev
    rw [hev] at hx
    simp only [Option.some.injEq, Prod.mk.injEq] at he
    obtain ⟨_, rfl⟩ := he
    have hx' := hx
    unfold RepFV at hx'
    obtain ⟨b, off, _, hv⟩ := hx'
    refine Goes.val (v := a.eval x) (w' := w) (by simp [execOp, ho, hv]) (h.same hx rfl rfl rfl)
  · rename_i ob es i j hev
    rw [hev] at hx
    simp only [Option.some.injEq, Prod.mk.injEq] at he
    obtain ⟨_, rfl⟩ := he
    have hx' := hx
    unfold RepFV at hx'
    obtain ⟨b, off, _, hv⟩ := hx'
    refine Goes.val (v := a.eval x) (w' := w) (by simp [execOp, ho, hv]) (h.same hx rfl rfl rfl)
  · rename_i cells hev
    rw [hev] at hx
    simp only [Option.some.injEq, Prod.mk.injEq] at he
    obtain ⟨_, rfl⟩ := he
    have hx' := hx
    unfold RepFV at hx'
    obtain ⟨b, off, hv, _⟩ := hx'
    refine Goes.val (v := a.eval x) (w' := w) (by simp [execOp, ho, hv]) (h.same hx rfl rfl rfl)
  · rename_i f caps hev
    rw [hev] at hx
    simp only [Option.some.injEq, Prod.mk.injEq] at he
    obtain ⟨_, rfl⟩ := he
    have hx' := hx
    unfold RepFV at hx'
    obtain ⟨vs, hv, _⟩ := hx'
    refine Goes.val (v := a.eval x) (w' := w) (by simp [execOp, ho, hv]) (h.same hx rfl rfl rfl)
  · cases he

theorem RepFV.ofV {r : Value} (h : r.oneCell' = true) : RepFV E w (.c (.v r)) r := by unfold RepFV; exact ⟨rfl, h⟩
theorem binV_run {op : BinOp} {t : TypeId} {x y : Operand} {u v r : Value} {c : Bool} (h : binV op u v = some (c, r)) (hc : c = true) (w : World) : (do eqGuard op t x y u v; binOp op t u v : Sem Value).run P w = .ok r w ∧ r.oneCell' = true := by
  unfold binV at h
  split at h <;> (try split at h)
  all_goals simp only [Option.some.injEq, Prod.mk.injEq, reduceCtorEq] at h
  all_goals (obtain ⟨rfl, rfl⟩ := h; refine ⟨?_, rfl⟩)
  all_goals (try subst_vars)
  all_goals (try simp only [decide_eq_true_eq, bne_iff_ne, ne_eq] at hc)
  all_goals first
    | (simp [eqGuard, binOp, Op.shift, Int.not_lt.2 hc]; done)
    | (simp [eqGuard, binOp, Op.intArith, Op.intDiv, Op.intBits, Op.intCmp, Op.stringOp]; done)
    | (simp [eqGuard, binOp, Op.intDiv, hc]; done)
    | (have hc' : ¬ ((9223372036854775807 : Int) < (_ : Int)) := Int.not_lt.2 (Int.ofNat_le.2 hc); simp [eqGuard, binOp, Op.stringOp]; omega)

theorem methodsAt_of {t : TypeId} {ms : Array (String × TypeId)} (h : P.underlying t = some (.interface ms)) : P.underlying t = some (.interface (P.methodsAt t)) := by
  rw [h]
  simp [Program.methodsAt, h]
theorem held_run {t tt : TypeId} {vv : Value} {x y : Operand} {op : BinOp} {ms : Array (String × TypeId)} (h : P.underlying t = some (.interface ms)) : eqGuard op t x y (.iface tt vv) .nilIface = pure () ∧ (binOp .eql t (.iface tt vv) .nilIface).run P w = .ok (.bool false) w ∧ (binOp .neq t (.iface tt vv) .nilIface).run P w = .ok (.bool true) w :=
  ⟨eqGuard_at_iface _ _ _ _ _ _ _, run_eql_held_nil w t tt vv (methodsAt_of h), run_neq_held_nil w t tt vv (methodsAt_of h)⟩
theorem eqV_run {op : BinOp} {t : TypeId} {d : TypeDesc} {k : TK} {x y : Operand} {u v : Value} {r : Bool} (hd : P.underlying t = some d) (hk : tkOf d = k) (h : eqV k op (isC x || isC y) u v = some r) (w : World) : (do eqGuard op t x y u v; binOp op t u v : Sem Value).run P w = .ok (.bool r) w := by
  unfold eqV at h
  split at h
  · cases h
    have : d = .bool := by cases d <;> simp_all [tkOf]
    subst this
    rw [eqGuard_at_bool, Sem.run_bind, Sem.run_pure, Result.andThen_ok]
    exact run_eql_bool w t _ _ hd
  · cases h
    have : d = .bool := by cases d <;> simp_all [tkOf]
    subst this
    rw [eqGuard_at_bool, Sem.run_bind, Sem.run_pure, Result.andThen_ok]
    exact run_neq_bool w t _ _ hd
  · split at h
    · rename_i hc
      cases h
      have : ∃ ms, d = .interface ms := by cases d <;> simp_all [tkOf]
      obtain ⟨ms, rfl⟩ := this
      have hg : eqGuard .eql t x y .nilIface .nilIface = pure () := by
        cases x <;> cases y <;> first | rfl | simp [isC] at hc
      rw [hg, Sem.run_bind, Sem.run_pure, Result.andThen_ok]
      exact run_eql_nil_nil w t (methodsAt_of hd)
    · cases h
  · split at h
    · rename_i hc
      cases h
      have : ∃ ms, d = .interface ms := by cases d <;> simp_all [tkOf]
      obtain ⟨ms, rfl⟩ := this
      have hg : eqGuard .neq t x y .nilIface .nilIface = pure () := by
        cases x <;> cases y <;> first | rfl | simp [isC] at hc
      rw [hg, Sem.run_bind, Sem.run_pure, Result.andThen_ok]
      exact run_neq_nil_nil w t (methodsAt_of hd)
    · cases h
  · cases h

theorem ok_unOp (h : Here K E U ev a w) {op : UnOp} {t : TypeId} {x : Operand} (ho : o.op = .unOp op t x) (he : opEff P ev E.H nid o.op = some (c, e)) : Ok P K E U a w nid o e := by
  rw [ho] at he
  simp only [opEff] at he
  have hx := h.e x
  split at he
  · rename_i u hu
    rw [hu] at hx
    split at he
    · rename_i r hb
      simp only [Option.some.injEq, Prod.mk.injEq] at he
      obtain ⟨_, rfl⟩ := he
      unfold unV at hb
      split at hb
      · cases hb
        exact Goes.val (w' := w) (by simp [execOp, ho, hx.v_eq, Op.unary, Op.intArith]) (h.same (RepFV.ofV rfl) rfl rfl rfl)
      · cases hb
        exact Goes.val (w' := w) (by simp [execOp, ho, hx.v_eq, Op.unary]) (h.same (RepFV.ofV rfl) rfl rfl rfl)
      · cases hb
    · cases he
  · cases he

theorem ok_makeFunc (h : Here K E U ev a w) {f : FuncId} {first caps : Array Operand} (ho : o.op = .makeFunc (.func f) first caps) (he : opEff P ev E.H nid o.op = some (c, e)) : Ok P K E U a w nid o e := by
  rw [ho] at he
  simp only [opEff] at he
  split at he
  · rename_i hf
    subst hf
    simp only [Option.some.injEq, Prod.mk.injEq] at he
    obtain ⟨_, rfl⟩ := he
    refine Goes.val (v := .func (.func f) #[] (caps.map a.eval)) (w' := w) (by simp [execOp, ho, Instr.makeFunc]) (h.same (fv := .fn f (caps.toList.map ev)) ?_ rfl rfl rfl)
    unfold RepFV
    refine ⟨(caps.toList.map a.eval), by congr 1; apply Array.ext'; simp, RepFVs.of_get (by simp) (fun i x v hx hv => ?_)⟩
    rw [List.getElem?_map] at hx hv
    obtain ⟨y, hy, rfl⟩ := Option.map_eq_some_iff.1 hx
    rw [hy] at hv
    cases hv
    exact h.e y
  · cases he

theorem ok_extract (h : Here K E U ev a w) {i : Nat} {x : Operand} (ho : o.op = .extract x i) (he : opEff P ev E.H nid o.op = some (c, e)) : Ok P K E U a w nid o e := by
  rw [ho] at he
  simp only [opEff] at he
  have hx := h.e x
  split at he
  · rename_i vs hv
    rw [hv] at hx
    split at he
    · rename_i v hi
      simp only [Option.some.injEq, Prod.mk.injEq] at he
      obtain ⟨_, rfl⟩ := he
      unfold RepFV at hx
      obtain ⟨us, hus, hreps⟩ := hx
      obtain ⟨hl, hg⟩ := RepFVs.get hreps
      have hlt : i < us.length := by rw [hl]; exact (List.getElem?_eq_some_iff.1 hi).1
      refine Goes.val (v := us[i]) (w' := w) (by simp [execOp, ho, hus, Instr.extract, hlt]) (h.same (hg i v _ hi (List.getElem?_eq_getElem hlt)) rfl rfl rfl)
    · cases he
  · cases he

theorem run_part' {t : TypeId} {ti : TI} (w : World) (h : tiOf P t = some ti) (cs : List Value) (off : Nat) (hl : off + ti.size ≤ cs.length) (h1 : ti.agg = false → ti.size = 1) :
    (part t cs.toArray off).run P w = .ok (if ti.agg then .agg ((cs.drop off).take ti.size).toArray else ((cs.drop off).take ti.size).getD 0 undef) w := by
  unfold part
  simp only [Sem.run_bind, run_isAgg w h, Result.andThen_ok]
  cases ha : ti.agg with
  | true =>
    simp only [if_true, Sem.run_bind, run_size w h, Result.andThen_ok, Sem.run_pure]
    congr 2
    apply Array.ext'
    simp [List.extract_eq_take_drop]
  | false =>
    have h2 := h1 ha
    have hlt : off < cs.length := by omega
    simp [List.getElem?_eq_getElem hlt, h2, List.getD, List.getElem?_take, List.getElem?_drop]

theorem eqT_run : ∀ (d : Nat) {t : TypeId} {xs ys : List C} {us vs : List Value} {r : Bool}, eqT P d t xs ys = some r → RepCs E w xs us → RepCs E w ys vs → ∀ {ti : TI}, tiOf P t = some ti → (ti.agg = false → ti.size = 1) → ∀ D, d ≤ D →
    (Op.equalIn D t (if ti.agg then .agg us.toArray else us.getD 0 undef) (if ti.agg then .agg vs.toArray else vs.getD 0 undef)).run P w = .ok r w
  | 0, t, xs, ys, us, vs, r, h, hx, hy, ti, hti, h1, D, hD => by simp [eqT] at h
  | d + 1, t, xs, ys, us, vs, r, h, hx, hy, ti, hti, h1, D, hD => by
    obtain ⟨D, rfl⟩ : ∃ D', D = D' + 1 := ⟨D - 1, by omega⟩
    obtain ⟨dd, ii, zz, hun, _, _, _, _, _, hk, _⟩ := tiOf_ok hti
    have hagg := ti_agg (d := dd) (ti := ti) hk
    unfold eqT at h
    rw [hun] at h
    split at h
    · rename_i hbt
      cases hbt
      have ha : ti.agg = false := by cases hq : ti.agg; rfl; have := hagg.1 hq; simp at this
      split at h
      · cases h
        obtain ⟨u, us', rfl, h3, h4⟩ := hx.uncons
        obtain ⟨v, vs', rfl, h5, h6⟩ := hy.uncons
        obtain ⟨rfl, _⟩ := h3
        obtain ⟨rfl, _⟩ := h5
        simp [ha, run_equalIn_bool' w D t _ _ hun]
      · cases h
    · rename_i kk hbt
      cases hbt
      have ha : ti.agg = false := by cases hq : ti.agg; rfl; have := hagg.1 hq; simp at this
      split at h
      · split at h
        · rename_i hkk
          subst hkk
          cases h
          obtain ⟨u, us', rfl, h3, h4⟩ := hx.uncons
          obtain ⟨v, vs', rfl, h5, h6⟩ := hy.uncons
          obtain ⟨rfl, _⟩ := h3
          obtain ⟨rfl, _⟩ := h5
          simp [ha, run_equalIn_int w D t _ _ _ _ hun]
        · cases h
      · cases h
    · rename_i fs hbt
      cases hbt
      have ha : ti.agg = true := hagg.2 (.inl ⟨_, rfl⟩)
      split at h
      · cases h
      · rename_i hst
        have hf : P.fieldsOf t = fs := by simp [Program.fieldsOf, hun]
        simp only [ha, if_true]
        rw [run_equalIn_struct w D t us.toArray vs.toArray (by rw [hf]; exact hun) hst, hf]
        generalize fs.toList = l at h
        clear hf hagg hk hun
        induction l generalizing r with
        | nil =>
          simp only [eqFs, Option.some.injEq] at h
          subst h
          simp [Op.eqFields]
        | cons f fs' ih =>
          unfold eqFs at h
          split at h
          · cases h
          · rename_i hnm
            have hnm' : f.name ≠ "_" := by simpa using hnm
            split at h
            · rename_i fi hfi
              split at h
              · rename_i hcond
                obtain ⟨g1, g2, g3⟩ := hcond
                split at h
                · rename_i r1 hr1
                  split at h
                  · rename_i s1 hs1
                    cases h
                    have e1 := run_part' w hfi us f.offset (by rw [hx.1]; exact g2) g1
                    have e2 := run_part' w hfi vs f.offset (by rw [hy.1]; exact g3) g1
                    have e3 := eqT_run d hr1 ((hx.drop f.offset).take fi.size) ((hy.drop f.offset).take fi.size) hfi g1 D (by omega)
                    have e4 := ih s1 hs1
                    rw [Op.eqFields]
                    simp only [if_pos hnm', Sem.run_bind, e1, e2, e3, Result.andThen_ok]
                    cases r1
                    · simp
                    · simpa using e4
                  · cases h
                · cases h
              · cases h
            · cases h
    · cases h

theorem eqAgg_run {op : BinOp} {t : TypeId} {x y : Operand} {xs ys : List C} {us vs : List Value} {r : Bool} (h : eqAgg P op t xs ys = some r) (hx : RepCs E w xs us) (hy : RepCs E w ys vs) :
    (eqGuard op t x y (.agg us.toArray) (.agg vs.toArray)).run P w = .ok () w ∧ (binOp op t (.agg us.toArray) (.agg vs.toArray)).run P w = .ok (.bool r) w := by
  unfold eqAgg at h
  split at h
  · cases h
  · rename_i hg
    refine ⟨run_eqGuard_agg w op t x y _ _ hg, ?_⟩
    split at h
    · rename_i ti hti
      split at h
      · rename_i ha
        split at h
        · rename_i r' hr'
          have h1 := eqT_run (P := P) (w := w) 8 hr' hx hy hti (fun hq => by rw [ha] at hq; cases hq) 10000 (by omega)
          simp only [ha, if_true] at h1
          split at h
          · cases h; rw [run_eql_struct, h1]; rfl
          · cases h; rw [run_neq_struct, h1]; rfl
          · cases h
        · cases h
      · cases h
    · cases h

theorem ok_binOp (h : Here K E U ev a w) {op : BinOp} {t yt : TypeId} {x y : Operand} (ho : o.op = .binOp op t x y yt) (hc : c = true) (he : opEff P ev E.H nid o.op = some (c, e)) : Ok P K E U a w nid o e := by
  rw [ho] at he
  simp only [opEff] at he
  have hx := h.e x
  have hy := h.e y
  split at he
  · rename_i u v hu hv
    rw [hu] at hx
    rw [hv] at hy
    split at he
    · rename_i c' r hb
      simp only [Option.some.injEq, Prod.mk.injEq] at he
      obtain ⟨rfl, rfl⟩ := he
      obtain ⟨hr, h1⟩ := binV_run (P := P) (t := t) (x := x) (y := y) hb hc w
      refine Goes.val (v := r) (w' := w) ?_ (h.same (RepFV.ofV h1) rfl rfl rfl)
      simp only [Sem.run_bind] at hr
      simp only [execOp, ho, hx.v_eq, hy.v_eq, Sem.run_bind]
      cases hq : (eqGuard op t x y u v).run P w with
      | ok q wq => rw [hq] at hr; simp only [Result.andThen_ok] at hr ⊢; rw [hr]; rfl
      | halt q wq => rw [hq] at hr; cases hr
    · split at he
      · rename_i ti hti
        obtain ⟨d, i, z, hun, _, _, _, _, _, hk, _⟩ := tiOf_ok hti
        split at he
        · rename_i r hq
          simp only [Option.some.injEq, Prod.mk.injEq] at he
          obtain ⟨_, rfl⟩ := he
          refine Goes.val (w' := w) ?_ (h.same (RepFV.ofV (r := .bool r) rfl) rfl rfl rfl)
          have hgo := eqV_run (P := P) hun hk hq w
          simp only [Sem.run_bind] at hgo
          simp only [execOp, ho, hx.v_eq, hy.v_eq, Sem.run_bind]
          cases hq2 : (eqGuard op t x y u v).run P w with
          | ok q wq => rw [hq2] at hgo; simp only [Result.andThen_ok] at hgo ⊢; rw [hgo]; rfl
          | halt q wq => rw [hq2] at hgo; cases hgo
        · cases he
      · cases he
  · rename_i bb hu hv
    rw [hu] at hx
    rw [hv] at hy
    have hx0 : RepT E.Z w .ifc bb [a.eval x] := by unfold RepFV at hx; exact hx
    have hx' : (bb = true ∧ a.eval x = .nilIface) ∨ (bb = false ∧ ∃ tt vv, a.eval x = .iface tt vv) := by
      obtain ⟨v, hv', h1⟩ := hx0
      simp only [List.cons.injEq, and_true] at hv'
      subst hv'
      exact h1
    split at he
    · rename_i hcst
      split at he
      · rename_i ti hti
        obtain ⟨d, i, z, hun, _, _, _, _, _, hk, _⟩ := tiOf_ok hti
        split at he
        · rename_i hks
          simp only [Option.some.injEq, Prod.mk.injEq] at he
          obtain ⟨_, rfl⟩ := he
          refine Goes.val (w' := w) ?_ (h.same (RepFV.ofV (r := .bool bb) rfl) rfl rfl rfl)
          rcases hx' with ⟨rfl, hxv⟩ | ⟨rfl, tt, vv, hxv⟩
          · have hgo := eqV_run (P := P) (x := x) (y := y) (op := .eql) (u := .nilIface) (v := .nilIface) (r := true) hun hk (by rw [hks, hcst]; simp [eqV]) w
            simp only [Sem.run_bind] at hgo
            simp only [execOp, ho, hxv, hy.v_eq, Sem.run_bind]
            cases hq2 : (eqGuard .eql t x y .nilIface .nilIface).run P w with
            | ok q wq => rw [hq2] at hgo; simp only [Result.andThen_ok] at hgo ⊢; rw [hgo]; rfl
            | halt q wq => rw [hq2] at hgo; cases hgo
          · rw [hks] at hk
            have hd : ∃ ms, d = .interface ms := by cases d <;> simp_all [tkOf]
            obtain ⟨ms, rfl⟩ := hd
            have hgo := held_run (P := P) (w := w) (tt := tt) (vv := vv) (x := x) (y := y) (op := .eql) hun
            simp [execOp, ho, hxv, hy.v_eq, hgo.1, hgo.2.1, hgo.2.2]
        · rename_i hks
          simp only [Option.some.injEq, Prod.mk.injEq] at he
          obtain ⟨_, rfl⟩ := he
          refine Goes.val (w' := w) ?_ (h.same (RepFV.ofV (r := .bool !bb) rfl) rfl rfl rfl)
          rcases hx' with ⟨rfl, hxv⟩ | ⟨rfl, tt, vv, hxv⟩
          · have hgo := eqV_run (P := P) (x := x) (y := y) (op := .neq) (u := .nilIface) (v := .nilIface) (r := false) hun hk (by rw [hks, hcst]; simp [eqV]) w
            simp only [Sem.run_bind] at hgo
            simp only [execOp, ho, hxv, hy.v_eq, Sem.run_bind]
            cases hq2 : (eqGuard .neq t x y .nilIface .nilIface).run P w with
            | ok q wq => rw [hq2] at hgo; simp only [Result.andThen_ok] at hgo ⊢; rw [hgo]; rfl
            | halt q wq => rw [hq2] at hgo; cases hgo
          · rw [hks] at hk
            have hd : ∃ ms, d = .interface ms := by cases d <;> simp_all [tkOf]
            obtain ⟨ms, rfl⟩ := hd
            have hgo := held_run (P := P) (w := w) (tt := tt) (vv := vv) (x := x) (y := y) (op := .neq) hun
            simp [execOp, ho, hxv, hy.v_eq, hgo.1, hgo.2.1, hgo.2.2]
        · cases he
      · cases he
    · cases he
  · rename_i xs ys hu hv
    rw [hu] at hx
    rw [hv] at hy
    split at he
    · rename_i r hr
      simp only [Option.some.injEq, Prod.mk.injEq] at he
      obtain ⟨_, rfl⟩ := he
      unfold RepFV at hx hy
      obtain ⟨us, hxv, hxr⟩ := hx
      obtain ⟨vs, hyv, hyr⟩ := hy
      obtain ⟨h1, h2⟩ := eqAgg_run (x := x) (y := y) hr hxr hyr
      refine Goes.val (w' := w) ?_ (h.same (RepFV.ofV (r := .bool r) rfl) rfl rfl rfl)
      simp [execOp, ho, hxv, hyv, Sem.run_bind, h1, h2]
    · cases he
  · cases he

theorem fieldOf_ok {t : TypeId} {f off : Nat} {fi : TI} (h : fieldOf P t f = some (off, fi)) : ∃ gs g, P.underlying t = some (.struct gs) ∧ gs[f]? = some g ∧ g.offset = off ∧ tiOf P g.type = some fi := by
  unfold fieldOf at h
  split at h
  · rename_i ti hti
    obtain ⟨d, i, z, hu, _, _, _, _, _, hk, _⟩ := tiOf_ok hti
    split at h
    · rename_i fs hfs
      rw [hfs] at hk
      obtain ⟨gs, rfl, hgs⟩ := tk_struct hk
      split at h
      · rename_i off' ft hf
        split at h
        · rename_i fi' hfi
          simp only [Option.some.injEq, Prod.mk.injEq] at h
          obtain ⟨rfl, rfl⟩ := h
          rw [← hgs, List.getElem?_map] at hf
          obtain ⟨g, hg, he2⟩ := Option.map_eq_some_iff.1 hf
          simp only [Prod.mk.injEq] at he2
          obtain ⟨rfl, rfl⟩ := he2
          exact ⟨gs, g, hu, by rw [← Array.getElem?_toList]; exact hg, rfl, hfi⟩
        · cases h
      · cases h
    · cases h
  · cases h
theorem elemOf_ok {t e : TypeId} {te : TI} (h : elemOf P t = some (e, te)) : P.underlying t = some (.slice e) ∧ tiOf P e = some te := by
  unfold elemOf at h
  split at h
  · rename_i ti hti
    obtain ⟨d, i, z, hu, _, _, _, _, _, hk, _⟩ := tiOf_ok hti
    split at h
    · rename_i e' he'
      rw [he'] at hk
      split at h
      · rename_i te' hte
        simp only [Option.some.injEq, Prod.mk.injEq] at h
        obtain ⟨rfl, rfl⟩ := h
        rw [tk_slice hk] at hu
        exact ⟨hu, hte⟩
      · cases h
    · cases h
  · cases h
theorem ok_field (h : Here K E U ev a w) {t : TypeId} {f : Nat} {x : Operand} (ho : o.op = .field t x f) (he : opEff P ev E.H nid o.op = some (c, e)) : Ok P K E U a w nid o e := by
  rw [ho] at he
  simp only [opEff] at he
  have hx := h.e x
  split at he
  · rename_i off fi cs hf hcs
    rw [hcs] at hx
    obtain ⟨gs, g, hu, hg, rfl, hfi⟩ := fieldOf_ok hf
    split at he
    · rename_i hcond
      obtain ⟨h1, hle⟩ := hcond
      simp only [Option.some.injEq, Prod.mk.injEq] at he
      obtain ⟨_, rfl⟩ := he
      unfold RepFV at hx
      obtain ⟨vs, hv, hr⟩ := hx
      refine Goes.val (w' := w) ?_ (h.same (mkv_rep ((hr.drop g.offset).take fi.size) (ti := fi) (by simp; omega) h1) rfl rfl rfl)
      simp [execOp, ho, Instr.field, run_und w hu, hg, hv, asAgg, run_part' w hfi vs g.offset (by rw [hr.1]; omega) h1]
    · cases he
  · cases he
end
end Eng
end Go.Proofs.Ytjhcdndmbilogaa
