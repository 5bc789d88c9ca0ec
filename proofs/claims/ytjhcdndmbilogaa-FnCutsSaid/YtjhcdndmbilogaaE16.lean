/-
  The engine, part 16: a region's operations in the text's order.
  CONDITIONS: those that each theorem names.
-/
import Derived.Test.YtjhcdndmbilogaaE15
namespace Go.Proofs.Ytjhcdndmbilogaa
namespace Eng
open Go Go.RowKit
set_option linter.unusedVariables false
set_option linter.unusedSimpArgs false

/-- A contract as the evaluator sees it. -/
structure Ent where
  ps : List PM
  rs : List PM
  den : HP ps → Option (HP rs × HP (outsP ps))
abbrev Tbl := FuncId → List Ent
def TblOk (P : Program) (J : World → Prop) (G : Nat) (Δ : Tbl) : Prop := ∀ f e, e ∈ Δ f → Con P J G f e.ps e.rs e.den

structure St where
  sl : List (Nat × FV)
  hp : List (Nat × Obj)
  nid : Nat

def memL (n : Nat) : List Nat → Bool
  | [] => false
  | m :: r => Nat.beq n m || memL n r
theorem memL_iff : ∀ {n : Nat} {l : List Nat}, memL n l = true ↔ n ∈ l
  | n, [] => by simp [memL]
  | n, m :: r => by
    simp only [memL, Bool.or_eq_true, List.mem_cons, memL_iff (l := r)]
    constructor
    · rintro (h | h)
      · exact .inl (Nat.eq_of_beq_eq_true h)
      · exact .inr h
    · rintro (rfl | h)
      · exact .inl (by simp)
      · exact .inr h

def St.ev (s : St) : Operand → FV := evOf (lookL s.sl)
def St.put (s : St) (dst : Option Nat) (e : Eff) : St where
  sl := match dst with
    | some d => (d, e.val) :: s.sl
    | none => s.sl
  hp := e.put ++ s.hp.filter fun p => !memL p.1 e.del
  nid := s.nid + 64
def St.lit (s : St) (t : Nat) (b : Bool) : St := { s with sl := (t, .c (.v (.bool b))) :: s.sl }

structure Rec where
  dst : Option Nat
  e : Eff
def skipEff : Eff := { val := .tup [] }

section
variable {R : Type} (P : Program) (Δ : Tbl)

def evCall (st : St) (fs : List FV) (K : Eff → Option R) : List Ent → Option R
  | [] => none
  | e :: es => match take (lookL st.hp) e.ps fs with
    | some tk => (e.den tk.x).bind fun y => match callEff st.nid e.ps e.rs fs tk y with
      | some eff => K eff
      | none => none
    | none => evCall st fs K es

def evPlain (o : Op) (st : St) (K : Eff → Option R) : Option R := match opEff P st.ev (lookL st.hp) st.nid o with
  | some (c, e) => if c = true then K e else none
  | none => none

def evOp (o : Op) (st : St) (K : Eff → Option R) : Option R := match o with
  | .call c => match c.callee with
    | .value f => match st.ev f with
      | .fn g caps => evCall st (c.args.toList.map st.ev ++ caps) K (Δ g)
      | _ => none
    | _ => evPlain P (.call c) st K
  | o => evPlain P o st K

def gslot (ops : List Oper) (g : Nat) : Option Nat := (ops[g]?).bind (·.dst)

def evOps (ops : List Oper) : List Oper → St → List Rec → (St → List Rec → Option R) → Option R
  | [], st, log, K => K st log
  | o :: rest, st, log, K => match o.guard with
    | none => evOp P Δ o.op st fun e => evOps ops rest (st.put o.dst e) (log ++ [⟨o.dst, e⟩]) K
    | some (g, want) => match gslot ops g with
      | some t => match lookL st.sl t with
        | some (.c (.v (.bool b))) => if b = want then evOp P Δ o.op (st.lit t want) fun e => evOps ops rest ((st.lit t want).put o.dst e) (log ++ [⟨o.dst, e⟩]) K
          else evOps ops rest ((st.lit t !want).put o.dst skipEff) (log ++ [⟨o.dst, skipEff⟩]) K
        | some (.tup []) => evOps ops rest (st.put o.dst skipEff) (log ++ [⟨o.dst, skipEff⟩]) K
        | _ => none
      | none => none
end

/-! ### What has been carried out -/
structure FS where
  T : Nat → Option FV
  H : Hp
  nid : Nat
def St.fs (s : St) : FS := ⟨lookL s.sl, lookL s.hp, s.nid⟩
def FS.put (s : FS) (dst : Option Nat) (e : Eff) : FS := ⟨fun t => if dst = some t then some e.val else s.T t, e.app s.H, s.nid + 64⟩

theorem St.put_fs (s : St) (dst : Option Nat) (e : Eff) : (s.put dst e).fs = s.fs.put dst e := by
  unfold St.put St.fs FS.put
  simp only [FS.mk.injEq, and_true]
  refine ⟨?_, ?_⟩
  · funext t
    cases dst with
    | none => simp
    | some d =>
      simp only [lookL_cons, Option.some.injEq]
      by_cases h : t = d
      · subst h; simp
      · rw [if_neg h, if_neg (Ne.symm h)]
  · funext x
    unfold Eff.app
    rw [lookL_append, lookL_filter (fun k => !memL k e.del)]
    cases lookL e.put x with
    | some ob => rfl
    | none =>
      simp only
      by_cases h : x ∈ e.del
      · have := memL_iff.2 h
        simp [h, this]
      · have : memL x e.del = false := by
          cases hm : memL x e.del
          · rfl
          · exact absurd (memL_iff.1 hm) h
        simp [h, this]
theorem St.lit_fs {s : St} {t : Nat} {b : Bool} (h : lookL s.sl t = some (.c (.v (.bool b)))) : (s.lit t b).fs = s.fs := by
  unfold St.lit St.fs
  simp only [FS.mk.injEq, and_true]
  funext x
  rw [lookL_cons]
  by_cases hx : x = t
  · subst hx; rw [if_pos rfl, h]
  · rw [if_neg hx]

/-- Is the operation wanted? -/
def GuardIs (ev : Operand → FV) (ops : List Oper) (o : Oper) (b : Bool) : Prop := match o.guard with
  | none => b = true
  | some (g, want) => ∃ t, gslot ops g = some t ∧ (ev (.tmp t) = .c (.v (.bool (if b then want else !want))) ∨ (b = false ∧ ev (.tmp t) = .tup []))

/-- What one operation does. -/
inductive Step1 (P : Program) (Δ : Tbl) (ops : List Oper) (ev : Operand → FV) (H : Hp) (nid : Nat) (o : Oper) : Eff → Prop
  | skip (hg : GuardIs ev ops o false) : Step1 P Δ ops ev H nid o skipEff
  | plain (e : Eff) (hg : GuardIs ev ops o true) (he : opEff P ev H nid o.op = some (true, e)) : Step1 P Δ ops ev H nid o e
  | call (c : Call) (x : Operand) (g : FuncId) (caps : List FV) (ent : Ent) (tk : Taken ent.ps) (y : HP ent.rs × HP (outsP ent.ps)) (e : Eff) (hg : GuardIs ev ops o true)
      (ho : o.op = .call c) (hc : c.callee = .value x) (hx : ev x = .fn g caps) (hent : ent ∈ Δ g)
      (htk : take H ent.ps (c.args.toList.map ev ++ caps) = some tk) (hy : ent.den tk.x = some y) (he : callEff nid ent.ps ent.rs (c.args.toList.map ev ++ caps) tk y = some e) : Step1 P Δ ops ev H nid o e

def Tr (P : Program) (Δ : Tbl) (ops : List Oper) : List Oper → FS → List Rec → FS → Prop
  | [], s, l, s' => l = [] ∧ s' = s
  | o :: r, s, l, s' => ∃ e l', l = ⟨o.dst, e⟩ :: l' ∧ Step1 P Δ ops (evOf s.T) s.H s.nid o e ∧ Tr P Δ ops r (s.put o.dst e) l' s'

section
variable {R : Type} {P : Program} {Δ : Tbl}

theorem evCall_tr {st : St} {fs : List FV} {K : Eff → Option R} {r : R} : ∀ {es : List Ent}, evCall st fs K es = some r →
    ∃ ent ∈ es, ∃ (tk : Taken ent.ps) (y : HP ent.rs × HP (outsP ent.ps)) (e : Eff), take (lookL st.hp) ent.ps fs = some tk ∧ ent.den tk.x = some y ∧ callEff st.nid ent.ps ent.rs fs tk y = some e ∧ K e = some r
  | [], h => by simp [evCall] at h
  | ent :: es, h => by
    unfold evCall at h
    split at h
    · rename_i tk htk
      rw [Option.bind_eq_some_iff] at h
      obtain ⟨y, hy, h⟩ := h
      split at h
      · rename_i e he
        exact ⟨ent, List.mem_cons_self, tk, y, e, htk, hy, he, h⟩
      · cases h
    · obtain ⟨ent', hm, h⟩ := evCall_tr h
      exact ⟨ent', List.mem_cons_of_mem _ hm, h⟩

theorem evPlain_tr {o : Op} {st : St} {K : Eff → Option R} {r : R} (h : evPlain P o st K = some r) : ∃ e, opEff P st.ev (lookL st.hp) st.nid o = some (true, e) ∧ K e = some r := by
  unfold evPlain at h
  split at h
  · rename_i c e he
    split at h
    · rename_i hc
      subst hc
      exact ⟨e, he, h⟩
    · cases h
  · cases h

theorem evOp_tr {ops : List Oper} {o : Oper} {st : St} {K : Eff → Option R} {r : R} (hg : GuardIs st.ev ops o true) (h : evOp P Δ o.op st K = some r) :
    ∃ e, Step1 P Δ ops st.ev (lookL st.hp) st.nid o e ∧ K e = some r := by
  unfold evOp at h
  split at h
  · rename_i c ho
    split at h
    · rename_i f hf
      split at h
      · rename_i g caps hx
        obtain ⟨ent, hm, tk, y, e, h1, h2, h3, h4⟩ := evCall_tr h
        exact ⟨e, .call c f g caps ent tk y e hg ho hf hx hm h1 h2 h3, h4⟩
      · cases h
    · obtain ⟨e, h1, h2⟩ := evPlain_tr h
      exact ⟨e, .plain e hg (by rw [ho]; exact h1), h2⟩
  · obtain ⟨e, h1, h2⟩ := evPlain_tr h
    exact ⟨e, .plain e hg h1, h2⟩

theorem evOps_tr {ops : List Oper} {K : St → List Rec → Option R} {r : R} : ∀ (rest : List Oper) {st : St} {log : List Rec}, evOps P Δ ops rest st log K = some r →
    ∃ l st', Tr P Δ ops rest st.fs l st'.fs ∧ K st' (log ++ l) = some r
  | [], st, log, h => ⟨[], st, ⟨rfl, rfl⟩, by simpa [evOps] using h⟩
  | o :: rest, st, log, h => by
    unfold evOps at h
    split at h
    · rename_i hgd
      obtain ⟨e, h1, h2⟩ := evOp_tr (ops := ops) (by unfold GuardIs; rw [hgd]) h
      obtain ⟨l, st', h3, h4⟩ := evOps_tr rest h2
      rw [St.put_fs] at h3
      exact ⟨⟨o.dst, e⟩ :: l, st', ⟨e, l, rfl, h1, h3⟩, by rw [List.append_assoc] at h4; exact h4⟩
    · rename_i g want hgd
      split at h
      · rename_i t ht
        split at h
        · rename_i b hb
          split at h
          · rename_i hbw
            subst hbw
            have hfs := St.lit_fs hb
            have hev : (st.lit t b).ev = st.ev := by
              have := congrArg FS.T hfs
              unfold St.ev; exact congrArg evOf this
            have hhp : lookL (st.lit t b).hp = lookL st.hp := congrArg FS.H hfs
            obtain ⟨e, h1, h2⟩ := evOp_tr (ops := ops) (o := o) (by unfold GuardIs; rw [hgd]; exact ⟨t, ht, .inl (by rw [hev]; show (lookL st.sl t).getD .undef = _; rw [hb]; rfl)⟩) h
            obtain ⟨l, st', h3, h4⟩ := evOps_tr rest h2
            rw [St.put_fs, hfs] at h3
            rw [hev, hhp] at h1
            exact ⟨⟨o.dst, e⟩ :: l, st', ⟨e, l, rfl, h1, h3⟩, by rw [List.append_assoc] at h4; exact h4⟩
          · rename_i hbw
            have hb' : b = !want := by cases b <;> cases want <;> simp_all
            subst hb'
            have hfs := St.lit_fs hb
            obtain ⟨l, st', h3, h4⟩ := evOps_tr rest h
            rw [St.put_fs, hfs] at h3
            refine ⟨⟨o.dst, skipEff⟩ :: l, st', ⟨skipEff, l, rfl, .skip ?_, h3⟩, by rw [List.append_assoc] at h4; exact h4⟩
            unfold GuardIs
            rw [hgd]
            exact ⟨t, ht, .inl (by show (lookL st.sl t).getD .undef = _; rw [hb]; rfl)⟩
        · rename_i hb
          obtain ⟨l, st', h3, h4⟩ := evOps_tr rest h
          rw [St.put_fs] at h3
          refine ⟨⟨o.dst, skipEff⟩ :: l, st', ⟨skipEff, l, rfl, .skip ?_, h3⟩, by rw [List.append_assoc] at h4; exact h4⟩
          unfold GuardIs
          rw [hgd]
          exact ⟨t, ht, .inr ⟨rfl, by show (lookL st.sl t).getD .undef = _; rw [hb]; rfl⟩⟩
        · cases h
      · cases h
end

/-! ### One operation in the model -/
theorem cst_rep {E : Env} {w : World} (v : Value) : RepFV E w (cst v) v := by
  unfold cst
  split
  · rename_i cs
    split
    · rename_i hall
      unfold RepFV
      refine ⟨cs.toList, by simp, ?_⟩
      exact zeros_rep (fun v hv => by rw [Array.all_eq_true_iff_forall_mem] at hall; exact hall v (by simpa using hv))
    · unfold RepFV; trivial
  · split
    · rename_i h
      unfold RepFV; exact ⟨rfl, h⟩
    · unfold RepFV; trivial
theorem evOf_rep {E : Env} {w : World} {T : Nat → Option FV} {a : Act} (h : ∀ t, RepFV E w ((T t).getD .undef) (a.tmps.getD t undef)) (x : Operand) : RepFV E w (evOf T x) (a.eval x) := by
  cases x with
  | tmp t => exact h t
  | const v => exact cst_rep v
  | global g => unfold evOf RepFV; trivial
  | func f =>
    unfold evOf RepFV
    exact ⟨[], rfl, by unfold RepFVs; rfl⟩

section
variable {P : Program} {Δ : Tbl} {K : Ctx} {E : Env} {U : Nat → Prop} {w : World} {a : Act} {ops : Array Oper} {Q : Exit → Act → World → Prop}

theorem guard_ok {ev : Operand → FV} {o : Oper} {b : Bool} (hev : ∀ x, RepFV E w (ev x) (a.eval x)) (h : GuardIs ev ops.toList o b) : Region.wanted o (yielded ops a.tmps) = b := by
  unfold GuardIs at h
  unfold Region.wanted
  split at h
  · rename_i hg
    rw [hg]
    exact h.symm
  · rename_i g want hg
    rw [hg]
    obtain ⟨t, ht, he⟩ := h
    have hr := hev (.tmp t)
    rcases he with he | ⟨rfl, he⟩
    case inr =>
      rw [he] at hr
      unfold RepFV at hr
      obtain ⟨vs, hv, hvs⟩ := hr
      unfold RepFVs at hvs
      subst hvs
      have hv' : a.tmps.getD t undef = .tuple #[] := hv
      have hy : yielded ops a.tmps g = none := by
        unfold yielded
        unfold gslot at ht
        rw [Array.getElem?_toList] at ht
        rw [ht]
        rw [Array.getD_eq_getD_getElem?] at hv'
        cases hq : a.tmps[t]? with
        | none => simp [hq]
        | some q =>
          rw [hq] at hv'
          have hv' : q = .tuple #[] := hv'
          subst hv'
          simp [hq]
      show (yielded ops a.tmps g == some want) = false
      rw [hy]
      cases want <;> rfl
    rw [he] at hr
    have hv := hr.v_eq
    have hv' : a.tmps.getD t undef = .bool (if b then want else !want) := hv
    have hget : a.tmps[t]? = some (.bool (if b then want else !want)) := by
      rw [Array.getD_eq_getD_getElem?] at hv'
      cases hq : a.tmps[t]? with
      | none => rw [hq] at hv'; simp [undef] at hv'
      | some q => rw [hq] at hv'; simpa using hv'
    have hy : yielded ops a.tmps g = some (if b then want else !want) := by
      unfold yielded
      unfold gslot at ht
      rw [Array.getElem?_toList] at ht
      rw [ht]
      simp [hget]
    show (yielded ops a.tmps g == some want) = b
    rw [hy]
    cases b <;> cases want <;> simp

theorem step1_ok (hW : WRel K E U w) {ev : Operand → FV} (hev : ∀ x, RepFV E w (ev x) (a.eval x)) {nid : Nat} (hfresh : ∀ i, i < 64 → ¬ U (nid + i)) (hΔ : TblOk P K.J K.G Δ) {o : Oper} {e : Eff} {i : Nat} (hi : ops[i]? = some o)
    (hst : Step1 P Δ ops.toList ev E.H nid o e) {Kt : Act → World → Prop}
    (hK : ∀ v w', Out K E (e.app E.H) (fun x => U x ∨ (nid ≤ x ∧ x < nid + 64)) w e.val v w' → Kt (a.put o.dst v) w') : wpOp P ops Q i Kt a w := by
  unfold wpOp
  rw [hi]
  simp only
  cases hst with
  | skip hg =>
    rw [guard_ok hev hg]
    simp only [Bool.false_eq_true, if_false]
    refine hK undef w ?_
    rw [app_nil E.H skipEff rfl rfl]
    exact Out.pure (hW.used_mono (fun _ h => .inl h)) (by unfold skipEff RepFV; exact ⟨[], rfl, by unfold RepFVs; rfl⟩)
  | plain _ hg he =>
    rw [guard_ok hev hg]
    simp only [if_true]
    refine .inl ?_
    obtain ⟨r, w', hrun, hcase⟩ := ok_op (P := P) (o := o) ⟨hW, hev⟩ (by simpa using hfresh 0 (by omega)) rfl he
    unfold Oper.wp
    rw [hrun]
    have hmono : ∀ v, Out K E (e.app E.H) (fun x => U x ∨ x = nid) w e.val v w' → Out K E (e.app E.H) (fun x => U x ∨ (nid ≤ x ∧ x < nid + 64)) w e.val v w' := fun v ⟨E', h1, h2, h3, h4⟩ =>
      ⟨E', h1, h2, h3.used_mono (fun x hx => hx.imp id (fun h => by omega)), h4⟩
    rcases hcase with ⟨v, rfl, hR⟩ | ⟨rfl, hR⟩
    · exact hK v w' (hmono v hR)
    · exact hK undef w' (hmono _ hR)
  | call c x g caps ent tk y _ hg ho hc hx hent htk hy he =>
    rw [guard_ok hev hg]
    simp only [if_true]
    refine .inl ?_
    have hxr := hev x
    rw [hx] at hxr
    unfold RepFV at hxr
    obtain ⟨cvs, hxv, hcaps⟩ := hxr
    have hargs : RepFVs E w (c.args.toList.map ev ++ caps) ((c.args.toList.map a.eval) ++ cvs) := by
      obtain ⟨g1, g2⟩ := RepFVs.get hcaps
      refine RepFVs.of_get (by simp [g1]) (fun j f v hf hv => ?_)
      by_cases hj : j < c.args.toList.length
      · rw [List.getElem?_append_left (by simpa using hj), List.getElem?_map] at hf hv
        obtain ⟨z, hz, rfl⟩ := Option.map_eq_some_iff.1 hf
        rw [hz] at hv
        cases hv
        exact hev z
      · rw [List.getElem?_append_right (by simp at hj ⊢; omega)] at hf hv
        simp only [List.length_map] at hf hv
        exact g2 _ f v hf hv
    have con := hΔ g ent hent
    have hcall := call_out hW hargs hfresh htk con hy he
    unfold Oper.wp
    have hrun : (execOp a.eval o).run P w = .ok (.enter g ((c.args.toList.map a.eval) ++ cvs).toArray) w := by
      obtain ⟨callee, args, argTypes⟩ := c
      simp only at hc
      subst hc
      have := con.call ((args.toList.map a.eval) ++ cvs).toArray w
      have harr : args.map a.eval ++ cvs.toArray = ((args.toList.map a.eval) ++ cvs).toArray := by
        apply Array.ext'
        simp
      simp only [execOp, ho, resolve, hxv, Deferred.ofValue, Sem.run_bind, Sem.run_pure, Result.andThen_ok, invoke]
      simpa [harr] using this
    rw [hrun]
    show Calls P g _ w _
    refine hcall.mono ?_
    rintro en w' ⟨v, rfl, hout⟩
    exact hK v w' hout
end
end Eng
end Go.Proofs.Ytjhcdndmbilogaa
