/-
  The engine, part 22: a function.
  CONDITIONS: those that each theorem names.
-/
import Derived.Test.YtjhcdndmbilogaaE21
namespace Go.Proofs.Ytjhcdndmbilogaa
namespace Eng
open Go Go.RowKit
set_option linter.unusedVariables false
set_option linter.unusedSimpArgs false

def splitHP : (a b : List PM) → HP (a ++ b) → HP a × HP b
  | [], b, x => ((), x)
  | p :: a, b, x => match splitHP a b x.2 with
    | (u, v) => ((x.1, u), v)

theorem SemPs.len {Z : ZS} {w : World} : ∀ {ps : List PM} {x : HP ps} {vs : List Value} {pls : List Pl}, SemPs Z w ps x vs pls → vs.length = ps.length
  | [], x, vs, pls, h => by obtain ⟨rfl, _⟩ := h; rfl
  | p :: ps, x, vs, pls, h => by
    obtain ⟨v, vs', p1, p2, rfl, _, _, h2⟩ := h
    simp [SemPs.len h2]
theorem SemPs.split {Z : ZS} {w : World} : ∀ (a b : List PM) {x : HP (a ++ b)} {va vb : List Value} {pls : List Pl}, SemPs Z w (a ++ b) x (va ++ vb) pls → va.length = a.length →
    ∃ p1 p2, pls = p1 ++ p2 ∧ SemPs Z w a (splitHP a b x).1 va p1 ∧ SemPs Z w b (splitHP a b x).2 vb p2
  | [], b, x, va, vb, pls, h, hl => by
    obtain rfl : va = [] := by simpa using hl
    exact ⟨[], pls, rfl, ⟨rfl, rfl⟩, h⟩
  | p :: a, b, x, va, vb, pls, h, hl => by
    obtain ⟨v, vs', q1, q2, e, rfl, h1, h2⟩ := h
    cases va with
    | nil => simp at hl
    | cons v' va =>
      simp only [List.cons_append, List.cons.injEq] at e
      obtain ⟨rfl, rfl⟩ := e
      obtain ⟨p1, p2, rfl, h3, h4⟩ := SemPs.split a b h2 (by simpa using hl)
      exact ⟨q1 ++ p1, p2, by rw [List.append_assoc], ⟨v', va, q1, p1, rfl, rfl, h1, h3⟩, h4⟩

/-- The numbers of the parameters that are pointers. -/
def ptrIdx : Nat → List PM → List Nat
  | _, [] => []
  | k, .ptr _ :: ps => k :: ptrIdx (k + 1) ps
  | k, .c _ :: ps => ptrIdx (k + 1) ps
  | k, .agg _ :: ps => ptrIdx (k + 1) ps
theorem ptrIdx_pv : ∀ {ps : List PM} {k : Nat} {pre vals : List Value}, vals.length = ps.length → pre.length = k → (ptrIdx k ps).map (fun i => (pre ++ vals).getD i undef) = pv ps vals
  | [], k, pre, vals, h, hk => by
    obtain rfl : vals = [] := by simpa using h
    rfl
  | p :: ps, k, pre, vals, h, hk => by
    cases vals with
    | nil => simp at h
    | cons v vals =>
      have ih := ptrIdx_pv (ps := ps) (k := k + 1) (pre := pre ++ [v]) (vals := vals) (by simpa using h) (by simp [hk])
      rw [List.append_assoc] at ih
      simp only [List.singleton_append] at ih
      cases p with
      | ptr ms =>
        simp only [ptrIdx, List.map_cons, pv, ih]
        congr 1
        subst hk
        simp [List.getD]
      | c m => exact ih
      | agg ms => exact ih
theorem ptrIdx_lt : ∀ {ps : List PM} {k i : Nat}, i ∈ ptrIdx k ps → k ≤ i ∧ i < k + ps.length
  | [], k, i, h => by simp [ptrIdx] at h
  | p :: ps, k, i, h => by
    have ih : i ∈ ptrIdx (k + 1) ps → k ≤ i ∧ i < k + (p :: ps).length := fun h => by
      have := ptrIdx_lt h
      simp only [List.length_cons]
      omega
    cases p with
    | ptr ms =>
      simp only [ptrIdx, List.mem_cons] at h
      rcases h with rfl | h
      · simp only [List.length_cons]; omega
      · exact ih h
    | c m => exact ih h
    | agg ms => exact ih h
theorem outsP_len : ∀ {ps : List PM} {k : Nat}, (outsP ps).length = (ptrIdx k ps).length
  | [], k => rfl
  | .ptr ms :: ps, k => by simp only [outsP, ptrIdx, List.length_cons, outsP_len (ps := ps) (k := k + 1)]
  | .c m :: ps, k => outsP_len (ps := ps) (k := k + 1)
  | .agg ms :: ps, k => outsP_len (ps := ps) (k := k + 1)

def resFV (P : Program) (st : St) : ResultVar → Option FV
  | .tmp t => some ((lookL st.sl t).getD .undef)
  | .cell a t => match (lookL st.sl a).getD .undef with
    | .pb o j => match tiOf P t with
      | some ti => match lookL st.hp o with
        | some (.box cells) => if j + ti.size ≤ cells.length ∧ (ti.agg = false → ti.size = 1) then some (mkv ti.agg ((cells.drop j).take ti.size)) else none
        | _ => none
      | none => none
    | _ => none
def resFVs (P : Program) (st : St) : List ResultVar → Option (List FV)
  | [] => some []
  | r :: rs => match resFV P st r with
    | some f => match resFVs P st rs with
      | some fs => some (f :: fs)
      | none => none
    | none => none
def finish (P : Program) (ps rs : List PM) (res : List ResultVar) (st : St) : Option (HP rs × HP (outsP ps)) := match resFVs P st res with
  | some rf => match take (lookL st.hp) (rs ++ outsP ps) (rf ++ (ptrIdx 0 ps).map fun i => (lookL st.sl i).getD .undef) with
    | some tk => some (splitHP rs (outsP ps) tk.x)
    | none => none
  | none => none
/-- What a function does, by its text. -/
def evF (P : Program) (Δ : Tbl) (nt : Nat) (la : Nat → Option LAnn) (c : Code) (res : List ResultVar) (ps rs : List PM) (x : HP ps) : Option (HP rs × HP (outsP ps)) := match plPs 0 ps x with
  | (fvs, objs, k) => evC P Δ nt (ptrIdx 0 ps) la c ⟨(List.range fvs.length).zip fvs, objs, k⟩ fun e st => match e with
    | .normal => finish P ps rs res st
    | .ret => finish P ps rs res st
    | _ => none

def resSem (tmps : Array Value) (r : ResultVar) : Sem Value := match r with
  | .tmp t => pure (tmps.getD t undef)
  | .cell a t => do loadVar t (← asAddr (tmps.getD a undef))
theorem results_eq (fn : Func) (tmps : Array Value) : results fn tmps = (do let vs ← fn.results.mapM (resSem tmps); pure (if h : vs.size = 1 then vs[0] else .tuple vs)) := by
  unfold results
  refine congrArg (fun g : ResultVar → Sem Value => (do let vs ← fn.results.mapM g; pure (if h : vs.size = 1 then vs[0] else .tuple vs))) ?_
  funext x
  cases x <;> rfl

section
variable {P : Program} {K : Ctx} {E : Env} {U : Nat → Prop} {w : World}

theorem resFV_ok (hW : WRel K E U w) {st : St} (hH : E.H = lookL st.hp) {tmps : Array Value} (hT : ∀ t, RepFV E w ((lookL st.sl t).getD .undef) (tmps.getD t undef)) {r : ResultVar} {f : FV} (h : resFV P st r = some f) :
    ∃ v, (resSem tmps r).run P w = .ok v w ∧ RepFV E w f v := by
  cases r with
  | tmp t =>
    simp only [resFV, Option.some.injEq] at h
    subst h
    exact ⟨tmps.getD t undef, by simp [resSem], hT t⟩
  | cell a t =>
    simp only [resFV] at h
    split at h
    · rename_i o j hp
      split at h
      · rename_i ti hti
        split at h
        · rename_i cells ho
          split at h
          · rename_i hc
            obtain ⟨hc, h1⟩ := hc
            cases h
            have hpr := hT a
            rw [hp] at hpr
            unfold RepFV at hpr
            obtain ⟨b, off, hpl, hpv⟩ := hpr
            obtain ⟨b', off', hpl', hz, hcl, hcell⟩ := hW.obj o (.box cells) (by rw [hH]; exact ho)
            rw [hpl] at hpl'
            cases hpl'
            obtain ⟨vs, hvs, hg⟩ := reps_of (E := E) (w := w) (cs := (cells.drop j).take ti.size) (b := b) (off := off + j) (fun i c hi => by
              obtain ⟨_, hg⟩ := take_drop_get _ _ _ _ _ hi
              obtain ⟨u, h2, _, h3⟩ := hcell _ c hg
              exact ⟨u, by rw [Nat.add_assoc]; exact h2, h3⟩)
            have hl : ((cells.drop j).take ti.size).length = ti.size := by simp; omega
            refine ⟨_, ?_, mkv_rep hvs hl h1⟩
            have := run_loadVar' w hti b (off + j) vs (hvs.1.trans hl) h1 hg
            simp only [resSem, hpv]
            simp [asAddr, this]
          · cases h
        · cases h
      · cases h
    · cases h

theorem resFVs_ok (hW : WRel K E U w) {st : St} (hH : E.H = lookL st.hp) {tmps : Array Value} (hT : ∀ t, RepFV E w ((lookL st.sl t).getD .undef) (tmps.getD t undef)) : ∀ {rs : List ResultVar} {fs : List FV}, resFVs P st rs = some fs →
    ∃ vs, (rs.mapM (resSem tmps)).run P w = .ok vs w ∧ RepFVs E w fs vs
  | [], fs, h => by
    simp only [resFVs, Option.some.injEq] at h
    subst h
    exact ⟨[], by simp, by unfold RepFVs; rfl⟩
  | r :: rs, fs, h => by
    simp only [resFVs] at h
    split at h
    · rename_i f hf
      split at h
      · rename_i fs' hfs
        cases h
        obtain ⟨v, h1, h2⟩ := resFV_ok hW hH hT hf
        obtain ⟨vs, h3, h4⟩ := resFVs_ok hW hH hT hfs
        refine ⟨v :: vs, ?_, by unfold RepFVs; exact ⟨v, vs, rfl, h2, h4⟩⟩
        rw [List.mapM_cons]
        simp only [Sem.run_bind, h1, h3, Result.andThen_ok, Sem.run_pure]
      · cases h
    · cases h

theorem arr_mapM {α β : Type} (f : α → Sem β) (l : Array α) {vs : List β} (h : (l.toList.mapM f).run P w = .ok vs w) : (l.mapM f).run P w = .ok vs.toArray w := by
  have := Array.toList_mapM (m := Sem) (f := f) (xs := l)
  rw [← this] at h
  rw [Sem.run_map] at h
  cases hq : (l.mapM f).run P w with
  | ok a w' =>
    rw [hq] at h
    simp only [Result.andThen_ok, Result.ok.injEq] at h
    obtain ⟨h1, h2⟩ := h
    rw [h2, ← h1]
  | halt x w' => rw [hq] at h; cases h

theorem ret_val {rs : List PM} {vs : List Value} (hl : vs.length = rs.length) : Ret rs (if h : vs.toArray.size = 1 then vs.toArray[0] else .tuple vs.toArray) vs := by
  match rs, vs, hl with
  | [], [], _ => rfl
  | [p], [v], _ => rfl
  | p :: q :: r, u :: v :: z, _ =>
    show _ = _
    rw [dif_neg (by simp)]

/-- A function does what its text says. -/
theorem fn_ok {J : World → Prop} {G : Nat} {Δ : Tbl} (hm : P.follows .mixedOrders = true) (hΔ : TblOk P J G Δ) {f : FuncId} {fn : Func} {c : Code} {nt : Nat} {res : List ResultVar} (hf : P.funcs[f]? = some fn) (hb : fn.body = some c)
    (hnt : fn.ntmps = nt) (hres : fn.results = res.toArray) (hname : (fn.name == "runtime.NumGoroutine") = false) {ps rs : List PM} (hps : Nat.ble ps.length nt = true) (la : Nat → Option LAnn) : Con P J G f ps rs (evF P Δ nt la c res ps rs) where
  call := fun args w => by
    have hbn : ¬ fn.body = none := by rw [hb]; simp
    have hn : ¬ fn.name = "runtime.NumGoroutine" := by simpa using hname
    simp [callFunc, program, Sem.run_bind, Sem.run, hf, hn, hbn, Result.andThen]
  ok := fun x y hy w Z vals pls hjs hj hg hsem hpok hzlt => by
    have hps := Nat.le_of_ble_eq_true hps
    have hvl := hsem.len
    obtain ⟨ρ, hW, hfv, _, _⟩ := WRel.enter (J := J) (G := G) (w0 := w) (w := w) (M := inPl pls) (Z0 := Z) 0 hsem hpok (fun b h => .inr h) hzlt (fun b y h => .inl h) (fun _ _ h => h) (fun _ _ _ => rfl) (Fr.refl _ w) hg hjs hj
    obtain ⟨n1, n2⟩ := plPs_nums (k := 0) hsem
    obtain ⟨fvs, objs, k, hpl⟩ : ∃ fvs objs k, plPs 0 ps x = (fvs, objs, k) := ⟨_, _, _, rfl⟩
    rw [hpl] at hfv hW n1
    simp only at hfv hW n1
    unfold evF at hy
    rw [hpl] at hy
    simp only at hy
    refine calls_of_wp hf hb ?_
    have hasz : (vals.toArray ++ Array.replicate (fn.ntmps - vals.toArray.size) undef).size = nt := by
      simp [hnt]; omega
    have hgetD : ∀ t, (vals.toArray ++ Array.replicate (fn.ntmps - vals.toArray.size) undef).getD t undef = vals.getD t undef := fun t => by
      rw [Array.getD_eq_getD_getElem?, List.getD_eq_getElem?_getD]
      by_cases ht : t < vals.length
      · rw [Array.getElem?_append_left (by simpa using ht)]; simp
      · rw [Array.getElem?_append_right (by simpa using ht), List.getElem?_eq_none (by omega)]
        simp only [Array.getElem?_replicate, Option.getD_none]
        split <;> rfl
    let N : Fix := ⟨nt, ptrIdx 0 ps, fun i => vals.getD i undef⟩
    let K : Ctx := ⟨J, G, w, inPl pls, Z⟩
    have hR : Rel K N (St.fs ⟨(List.range fvs.length).zip fvs, objs, k⟩) { tmps := vals.toArray ++ Array.replicate (fn.ntmps - vals.toArray.size) undef, defers := [] } w := by
      refine ⟨_, _, rfl, hW, fun t => ?_, fun o ho => ?_, rfl, hasz, fun i hi => hgetD i⟩
      · show RepFV _ w ((lookL ((List.range fvs.length).zip fvs) t).getD .undef) _
        rw [hgetD]
        cases hq : lookL ((List.range fvs.length).zip fvs) t with
        | none => simp only [Option.getD_none]; unfold RepFV; trivial
        | some f' =>
          simp only [Option.getD_some]
          obtain ⟨i, h1, h2⟩ := lookL_zip hq
          have hi : i = t := by
            rw [List.getElem?_range (by have := (List.getElem?_eq_some_iff.1 h1).1; simpa using this)] at h1
            simpa using h1
          subst hi
          have hlt : i < vals.length := by rw [(RepFVs.get hfv).1]; exact (List.getElem?_eq_some_iff.1 h2).1
          have := (RepFVs.get hfv).2 i f' _ h2 (List.getElem?_eq_getElem hlt)
          simpa [List.getD, hlt] using this
      · show o < k
        rw [n1]; exact ho.2
    refine evC_ok (N := N) (K := K) hm hΔ la c _ _ hy _ w _ hR (fun e st a' w' hk hR' => ?_)
    have key : ∀ (hk : finish P ps rs res st = some y), a'.defers = [] ∧ ∃ v, (results fn a'.tmps).run P w' = .ok v w' ∧ ∃ v' rvals Z' pl1 pl2, Ending.returned v = .returned v' ∧ Ret rs v' rvals ∧ ZLe Z Z' ∧ Keeps Z w w' ∧ (∀ b y, Z' b y → b < w'.heap.size) ∧
        (∀ b y, Z' b y → Z b y ∨ w.heap.size ≤ b ∨ inPl pls b) ∧ Fr (inPl pls) w w' ∧ J w' ∧ SemPs Z' w' rs y.1 rvals pl1 ∧ SemPs Z' w' (outsP ps) y.2 (pv ps vals) pl2 ∧ PlOk G w' (pl1 ++ pl2) ∧ ∀ b, inPl (pl1 ++ pl2) b → w.heap.size ≤ b ∨ inPl pls b := fun hk => by
      obtain ⟨E', U', hH', hW', hT', _, hd', htm'⟩ := hR'
      refine ⟨hd', ?_⟩
      unfold finish at hk
      split at hk
      · rename_i rf hrf
        split at hk
        · rename_i tk htk
          cases hk
          have hH'' : E'.H = lookL st.hp := hH'
          obtain ⟨rvals, hrun, hrv⟩ := resFVs_ok hW' hH'' hT' hrf
          have hall : RepFVs E' w' (rf ++ (ptrIdx 0 ps).map fun i => (lookL st.sl i).getD .undef) (rvals ++ pv ps vals) := by
            have hpv : pv ps vals = (ptrIdx 0 ps).map fun i => a'.tmps.getD i undef := by
              rw [← ptrIdx_pv (pre := []) hvl rfl]
              exact List.map_congr_left fun i hi => (htm'.2 i hi).symm
            rw [hpv]
            refine RepFVs.of_get (by simp [(RepFVs.get hrv).1]) (fun i f' v hf' hv => ?_)
            have hrl := (RepFVs.get hrv).1
            by_cases hi : i < rf.length
            · rw [List.getElem?_append_left hi] at hf'
              rw [List.getElem?_append_left (by omega)] at hv
              exact (RepFVs.get hrv).2 i f' v hf' hv
            · rw [List.getElem?_append_right (by omega), List.getElem?_map] at hf'
              rw [List.getElem?_append_right (by omega), hrl, List.getElem?_map] at hv
              obtain ⟨t, ht, rfl⟩ := Option.map_eq_some_iff.1 hf'
              rw [ht] at hv
              cases hv
              exact hT' t
          rw [← hH''] at htk
          obtain ⟨E1, pls', e1, e2, hl1, hW1, hsem', hsrc, hobj, hnd, _⟩ := take_ok hW' htk hall
          have hrl : rvals.length = rs.length := by
            have h1 := hsem'.len
            have h2 : (pv ps vals).length = (outsP ps).length := by
              rw [← ptrIdx_pv (pre := []) (k := 0) hvl rfl, List.length_map, outsP_len (k := 0)]
            simp only [List.length_append] at h1
            omega
          obtain ⟨p1, p2, rfl, hs1, hs2⟩ := SemPs.split rs (outsP ps) hsem' hrl
          have hpok' := SrcPl.ok hW1 hsrc hobj hnd
          have hin : ∀ b, inPl (p1 ++ p2) b → w.heap.size ≤ b ∨ inPl pls b := fun b ⟨off, ho⟩ => by
            obtain ⟨i, hi⟩ := List.mem_iff_getElem?.1 ho
            have hlt : i < tk.srcs.length := by rw [hsrc.len]; exact (List.getElem?_eq_some_iff.1 hi).1
            have hs := List.getElem?_eq_getElem hlt
            have hat := hsrc.at_ i _ _ hs hi
            cases hq : tk.srcs[i] with
            | none => rw [hq] at hat; cases hat
            | some o =>
              rw [hq] at hat hs
              obtain ⟨ob, hob⟩ := hobj o (List.mem_of_getElem? hs)
              exact (hW1.mine o ob b off hob hat).1
          refine ⟨_, ?_, _, rvals, E1.Z, p1, p2, rfl, ret_val hrl, hW1.z0, hW1.keep, hW1.zlt, hW1.zw, hW1.fr, hW1.j, hs1, hs2, hpok', hin⟩
          rw [results_eq, Sem.run_bind, hres, arr_mapM _ _ hrun]
          rfl
        · cases hk
      · cases hk
    cases e with
    | normal => exact key hk
    | ret => exact key hk
    | _ => cases hk
end
end Eng
end Go.Proofs.Ytjhcdndmbilogaa
