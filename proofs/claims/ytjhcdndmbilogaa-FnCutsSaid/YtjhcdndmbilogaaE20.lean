/-
  The engine, part 20: a region that draws its order.
  CONDITIONS: those that each theorem names.
-/
import Derived.Test.YtjhcdndmbilogaaE19
namespace Go.Proofs.Ytjhcdndmbilogaa
namespace Eng
open Go Go.RowKit
set_option linter.unusedVariables false
set_option linter.unusedSimpArgs false

def maskOf (o : Oper) (acc : List Nat) : Nat := o.after.toList.foldl (fun s e => if Region.binds .any e then s ||| 2 ^ e.on ||| acc.getD e.on 0 else s) 0
/-- For each operation those that come ahead of it in every order, as bits. -/
def bef : List Oper → List Nat → List Nat
  | [], acc => acc
  | o :: r, acc => bef r (acc ++ [maskOf o acc])

def anyIn (a b : List Nat) : Bool := a.any fun x => memL x b
theorem anyIn_false {a b : List Nat} (h : anyIn a b = false) : ∀ x, x ∈ a → x ∈ b → False := fun x ha hb => by
  unfold anyIn at h
  rw [List.any_eq_false] at h
  exact h x ha (memL_iff.2 hb)
def wrR (r : Rec) : List Nat := r.e.put.map (·.1) ++ r.e.del
/-- May one not be exchanged with the other? -/
def conf (ops : List Oper) (oi oj : Oper) (ri rj : Rec) : Bool :=
  anyIn ri.dst.toList (looks ops oj) || anyIn rj.dst.toList (looks ops oi) || anyIn ri.dst.toList rj.dst.toList ||
  anyIn (wrR ri) rj.e.rd || anyIn (wrR ri) (wrR rj) || anyIn ri.e.rd (wrR rj)
/-- All pairs behind one another that may not be exchanged are bound. -/
def okPairs (ops : List Oper) (mask : Nat) (oj : Oper) (rj : Rec) : Nat → List Oper → List Rec → Bool
  | i, oi :: os, ri :: rs => (!conf ops oi oj ri rj || mask.testBit i) && okPairs ops mask oj rj (i + 1) os rs
  | _, _, _ => true
def okAll (ops : List Oper) (B : List Nat) (tr : List Rec) : Nat → List Oper → List Rec → Bool
  | j, oj :: os, rj :: rs => okPairs ops (B.getD j 0) oj rj 0 (ops.take j) (tr.take j) && okAll ops B tr (j + 1) os rs
  | _, _, _ => true
def okOrder (ops : List Oper) (tr : List Rec) : Bool := okAll ops (bef ops []) tr 0 ops tr
def edgesOk : Nat → List Oper → Bool
  | _, [] => true
  | j, o :: r => (o.after.toList.all fun e => !Region.binds .any e || Nat.blt e.on j) && edgesOk (j + 1) r

theorem bef_get : ∀ (r : List Oper) (acc : List Nat), (∀ j, j < acc.length → (bef r acc)[j]? = acc[j]?) ∧ ∀ j o, r[j]? = some o → (bef r acc)[acc.length + j]? = some (maskOf o ((bef r acc).take (acc.length + j)))
  | [], acc => ⟨fun j hj => rfl, fun j o h => by simp at h⟩
  | o :: r, acc => by
    obtain ⟨h1, h2⟩ := bef_get r (acc ++ [maskOf o acc])
    have hacc : ∀ j, j < acc.length → (bef (o :: r) acc)[j]? = acc[j]? := fun j hj => by
      show (bef r (acc ++ [maskOf o acc]))[j]? = _
      rw [h1 j (by simp; omega), List.getElem?_append_left hj]
    refine ⟨hacc, fun j o' h => ?_⟩
    cases j with
    | zero =>
      simp only [List.getElem?_cons_zero, Option.some.injEq] at h
      subst h
      have e1 : (bef (o :: r) acc)[acc.length]? = some (maskOf o acc) := by
        show (bef r (acc ++ [maskOf o acc]))[acc.length]? = _
        rw [h1 _ (by simp)]
        simp
      have e2 : (bef (o :: r) acc).take acc.length = acc := by
        apply List.ext_getElem?
        intro k
        rw [List.getElem?_take]
        by_cases hk : k < acc.length
        · rw [if_pos hk, hacc k hk]
        · rw [if_neg hk, List.getElem?_eq_none (by omega)]
      rw [Nat.add_zero, e1, e2]
    | succ j =>
      simp only [List.getElem?_cons_succ] at h
      have := h2 j o' h
      simp only [List.length_append, List.length_cons, List.length_nil] at this
      rw [show acc.length + (j + 1) = acc.length + (0 + 1) + j by omega]
      exact this

theorem mask_fold {acc : List Nat} {i : Nat} : ∀ (es : List Edge) (s : Nat), (es.foldl (fun s e => if Region.binds .any e then s ||| 2 ^ e.on ||| acc.getD e.on 0 else s) s).testBit i = true →
    s.testBit i = true ∨ ∃ e ∈ es, Region.binds .any e = true ∧ (e.on = i ∨ (acc.getD e.on 0).testBit i = true)
  | [], s, h => .inl h
  | e :: es, s, h => by
    simp only [List.foldl_cons] at h
    rcases mask_fold es _ h with h | ⟨e', h1, h2, h3⟩
    · split at h
      · rename_i hb
        simp only [Nat.testBit_or, Bool.or_eq_true, Nat.testBit_two_pow, decide_eq_true_eq] at h
        rcases h with (h | h) | h
        · exact .inl h
        · exact .inr ⟨e, List.mem_cons_self, hb, .inl h⟩
        · exact .inr ⟨e, List.mem_cons_self, hb, .inr h⟩
      · exact .inl h
    · exact .inr ⟨e', List.mem_cons_of_mem _ h1, h2, h3⟩

/-- A bit of the mask is a binding edge, or a bit of such an edge's mask. -/
theorem bit_of {ops : List Oper} {j i : Nat} {o : Oper} (ho : ops[j]? = some o) (h : ((bef ops []).getD j 0).testBit i = true) :
    ∃ e ∈ o.after.toList, Region.binds .any e = true ∧ (e.on = i ∨ (e.on < j ∧ ((bef ops []).getD e.on 0).testBit i = true)) := by
  have h1 := (bef_get ops []).2 j o ho
  simp only [List.length_nil, Nat.zero_add] at h1
  simp only [List.getD, h1, Option.getD_some] at h
  rcases mask_fold _ _ h with h | ⟨e, h2, h3, h4⟩
  · simp at h
  · refine ⟨e, h2, h3, h4.imp id fun h5 => ?_⟩
    simp only [List.getD, List.getElem?_take] at h5
    split at h5
    · rename_i hlt; exact ⟨hlt, h5⟩
    · simp at h5

theorem okPairs_get {ops : List Oper} {mask : Nat} {oj : Oper} {rj : Rec} : ∀ {k : Nat} {os : List Oper} {rs : List Rec}, okPairs ops mask oj rj k os rs = true → ∀ i oi ri, os[i]? = some oi → rs[i]? = some ri → conf ops oi oj ri rj = true → mask.testBit (k + i) = true
  | k, o :: os, r :: rs, h, i, oi, ri, ho, hr, hc => by
    simp only [okPairs, Bool.and_eq_true, Bool.or_eq_true, Bool.not_eq_true'] at h
    cases i with
    | zero =>
      simp at ho hr
      subst ho; subst hr
      rcases h.1 with h | h
      · rw [hc] at h; cases h
      · exact h
    | succ i =>
      have := okPairs_get h.2 i oi ri (by simpa using ho) (by simpa using hr) hc
      rw [show k + (i + 1) = k + 1 + i by omega]
      exact this
  | k, [], rs, h, i, oi, ri, ho, hr, hc => by simp at ho
  | k, _ :: _, [], h, i, oi, ri, ho, hr, hc => by simp at hr
theorem okAll_get {ops : List Oper} {B : List Nat} {tr : List Rec} : ∀ {k : Nat} {os : List Oper} {rs : List Rec}, okAll ops B tr k os rs = true → ∀ j oj rj, os[j]? = some oj → rs[j]? = some rj → okPairs ops (B.getD (k + j) 0) oj rj 0 (ops.take (k + j)) (tr.take (k + j)) = true
  | k, o :: os, r :: rs, h, j, oj, rj, ho, hr => by
    simp only [okAll, Bool.and_eq_true] at h
    cases j with
    | zero =>
      simp at ho hr
      subst ho; subst hr
      exact h.1
    | succ j =>
      have := okAll_get h.2 j oj rj (by simpa using ho) (by simpa using hr)
      rw [show k + (j + 1) = k + 1 + j by omega]
      exact this
  | k, [], rs, h, j, oj, rj, ho, hr => by simp at ho
  | k, _ :: _, [], h, j, oj, rj, ho, hr => by simp at hr
theorem okOrder_get {ops : List Oper} {tr : List Rec} (h : okOrder ops tr = true) {i j : Nat} {oi oj : Oper} {ri rj : Rec} (hij : i < j) (h1 : ops[i]? = some oi) (h2 : ops[j]? = some oj) (h3 : tr[i]? = some ri) (h4 : tr[j]? = some rj)
    (hc : conf ops oi oj ri rj = true) : ((bef ops []).getD j 0).testBit i = true := by
  have := okAll_get h j oj rj h2 h4
  rw [Nat.zero_add] at this
  have := okPairs_get this i oi ri (by rw [List.getElem?_take, if_pos hij]; exact h1) (by rw [List.getElem?_take, if_pos hij]; exact h3) hc
  simpa using this

theorem edgesOk_get : ∀ {k : Nat} {os : List Oper}, edgesOk k os = true → ∀ j o, os[j]? = some o → ∀ e ∈ o.after.toList, Region.binds .any e = true → e.on < k + j
  | k, o :: os, h, j, o', ho, e, he, hb => by
    simp only [edgesOk, Bool.and_eq_true, List.all_eq_true, Bool.or_eq_true, Bool.not_eq_true'] at h
    cases j with
    | zero =>
      simp at ho
      subst ho
      rcases h.1 e he with h | h
      · rw [hb] at h; cases h
      · simpa [Nat.blt_eq] using h
    | succ j =>
      have := edgesOk_get h.2 j o' (by simpa using ho) e he hb
      omega
  | k, [], h, j, o, ho, e, he, hb => by simp at ho

/-! ### The trace by number -/
def stAt (s : FS) (tr : List Rec) (j : Nat) : FS := ⟨foldT s.T tr (fun _ => true) j, foldH s.H tr (fun _ => true) j, s.nid + 64 * j⟩
theorem fold_cons {s : FS} {r : Rec} {tr : List Rec} : ∀ j, stAt s (r :: tr) (j + 1) = stAt (s.put r.dst r.e) tr j
  | 0 => by
    unfold stAt FS.put
    simp only [FS.mk.injEq]
    refine ⟨?_, ?_, by simp⟩
    · funext t; simp [foldT]
    · funext x
      simp only [foldH, List.getElem?_cons_zero, if_true]
  | j + 1 => by
    have ih := fold_cons (s := s) (r := r) (tr := tr) j
    unfold stAt at ih ⊢
    simp only [FS.mk.injEq] at ih ⊢
    refine ⟨?_, ?_, by have := ih.2.2; show s.nid + 64 * (j + 1 + 1) = s.nid + 64 + 64 * (j + 1); omega⟩
    · funext t
      have := congrFun ih.1 t
      conv => lhs; unfold foldT
      conv => rhs; unfold foldT
      simp only [List.getElem?_cons_succ]
      rw [this]
    · funext x
      conv => lhs; unfold foldH
      conv => rhs; unfold foldH
      simp only [List.getElem?_cons_succ]
      rw [show foldH s.H (r :: tr) (fun _ => true) (j + 1) = foldH (s.put r.dst r.e).H tr (fun _ => true) j from ih.2.1]

theorem Tr.get {P : Program} {Δ : Tbl} {ops : List Oper} : ∀ {rest : List Oper} {s sF : FS} {tr : List Rec}, Tr P Δ ops rest s tr sF →
    tr.length = rest.length ∧ sF = stAt s tr rest.length ∧ ∀ j o, rest[j]? = some o → ∃ r, tr[j]? = some r ∧ r.dst = o.dst ∧ Step1 P Δ ops (evOf (stAt s tr j).T) (stAt s tr j).H (stAt s tr j).nid o r.e
  | [], s, sF, tr, h => by
    obtain ⟨rfl, rfl⟩ := h
    exact ⟨rfl, rfl, fun j o ho => by simp at ho⟩
  | o :: rest, s, sF, tr, h => by
    obtain ⟨e, l', rfl, h1, h2⟩ := h
    obtain ⟨g1, g2, g3⟩ := Tr.get h2
    refine ⟨by simp [g1], by rw [g2, List.length_cons, fold_cons], fun j o' ho => ?_⟩
    cases j with
    | zero =>
      simp at ho
      subst ho
      exact ⟨_, rfl, rfl, h1⟩
    | succ j =>
      simp at ho
      obtain ⟨r, k1, k2, k3⟩ := g3 j o' ho
      exact ⟨r, by simpa using k1, k2, by rw [fold_cons]; exact k3⟩

/-- How many are still to come. -/
def cntU (listed : Array Bool) : Nat → Nat
  | 0 => 0
  | m + 1 => cntU listed m + if listed.getD m true = true then 0 else 1
theorem cntU_set {listed : Array Bool} {i : Nat} (hi : listed.getD i true = false) : ∀ (m : Nat), cntU (listed.setIfInBounds i true) m + (if i < m then 1 else 0) = cntU listed m
  | 0 => rfl
  | m + 1 => by
    have ih := cntU_set hi m
    have hlt : i < listed.size := by
      rcases Nat.lt_or_ge i listed.size with h | h
      · exact h
      · simp [Array.getElem?_eq_none h] at hi
    unfold cntU
    by_cases hm : i = m
    · subst hm
      have e1 : (listed.setIfInBounds i true).getD i true = true := by simp [hlt]
      rw [e1, hi]
      simp only [if_true, Bool.false_eq_true, if_false]
      have e2 : (if i < i then 1 else 0) = 0 := if_neg (by omega)
      have e3 : (if i < i + 1 then 1 else 0) = 1 := if_pos (by omega)
      rw [e2] at ih
      rw [e3]
      omega
    · rw [getD_set_ne true hm]
      by_cases hlt2 : i < m
      · have e3 : (if i < m + 1 then 1 else 0) = 1 := if_pos (by omega)
        rw [if_pos hlt2] at ih
        rw [e3]
        omega
      · have e3 : (if i < m + 1 then 1 else 0) = 0 := if_neg (by omega)
        rw [if_neg hlt2] at ih
        rw [e3]
        omega
theorem cntU_zero {listed : Array Bool} : ∀ {m : Nat}, cntU listed m = 0 → ∀ j, j < m → listed.getD j true = true
  | 0, h, j, hj => by omega
  | m + 1, h, j, hj => by
    unfold cntU at h
    by_cases hjm : j = m
    · subst hjm
      cases hq : listed.getD j true with
      | true => rfl
      | false => rw [hq] at h; simp at h
    · exact cntU_zero (m := m) (by omega) j (by omega)

section
variable {P : Program} {Δ : Tbl} {K : Ctx} {N : Fix} {ops : Array Oper} {Q : Exit → Act → World → Prop}

theorem any_ok (hΔ : TblOk P K.J K.G Δ) (hdst : ∀ o ∈ ops.toList, ∀ d, o.dst = some d → SlotOk N d) (hed : edgesOk 0 ops.toList = true) {s sF : FS} {tr : List Rec} (ht : Tr P Δ ops.toList ops.toList s tr sF) (hok : okOrder ops.toList tr = true)
    (hQ : ∀ a w, Rel K N sF a w → Q .normal a w) : ∀ (fuel : Nat) (listed : Array Bool) (a : Act) (w : World), cntU listed ops.size ≤ fuel → listed.size = ops.size →
      (∀ j o, ops[j]? = some o → listed.getD j false = true → ∀ e ∈ o.after, Region.binds .any e = true → listed.getD e.on false = true) →
      (∃ E U, E.H = foldH s.H tr (fun k => listed.getD k false) ops.size ∧ WRel K E U w ∧ (∀ t, RepFV E w ((foldT s.T tr (fun k => listed.getD k false) ops.size t).getD .undef) (a.tmps.getD t undef)) ∧
        (∀ o, U o → o < s.nid ∨ ∃ i, listed.getD i false = true ∧ s.nid + 64 * i ≤ o ∧ o < s.nid + 64 * i + 64) ∧ a.defers = [] ∧ TmpOk N a) → wpAny P .any ops Q fuel listed a w := by
  obtain ⟨htl, hsF, hget⟩ := ht.get
  have hn : ops.toList.length = ops.size := Array.length_toList
  have hge : ∀ j o, ops[j]? = some o → ops.toList[j]? = some o := fun j o h => by rw [Array.getElem?_toList]; exact h
  -- whoever is bound ahead has been listed
  have hanc : ∀ (listed : Array Bool), (∀ j o, ops[j]? = some o → listed.getD j false = true → ∀ e ∈ o.after, Region.binds .any e = true → listed.getD e.on false = true) →
      ∀ j, (∀ o, ops[j]? = some o → ∀ e ∈ o.after, Region.binds .any e = true → listed.getD e.on false = true) → ∀ i, ((bef ops.toList []).getD j 0).testBit i = true → j < ops.size → listed.getD i false = true := by
    intro listed hcl j
    induction j using Nat.strongRecOn with
    | _ j ih =>
      intro hpre i hbit hj
      obtain ⟨e, he, hb, hcase⟩ := bit_of (hge j _ (Array.getElem?_eq_getElem hj)) hbit
      have hl := hpre _ (Array.getElem?_eq_getElem hj) e (by simpa using he) hb
      rcases hcase with rfl | ⟨hlt, hbit'⟩
      · exact hl
      · exact ih e.on hlt (fun o ho e' he' hb' => hcl e.on o ho hl e' he' hb') i hbit' (by omega)
  -- nothing is left: all have been listed
  have hall : ∀ (listed : Array Bool), listed.size = ops.size → Region.ready .any ops listed = [] → ∀ j, j < ops.size → listed.getD j false = true := by
    intro listed hsz hr j
    induction j using Nat.strongRecOn with
    | _ j ih =>
      intro hj
      cases hq : listed.getD j false with
      | true => rfl
      | false =>
        have hq' : listed.getD j true = false := by
          have h2 : j < listed.size := by omega
          simp [h2] at hq ⊢
          exact hq
        have : j ∈ Region.ready .any ops listed := mem_ready.2 ⟨hq', _, Array.getElem?_eq_getElem hj, fun e he hb => ih e.on (by
          have := edgesOk_get hed j _ (hge j _ (Array.getElem?_eq_getElem hj)) e (by simpa using he) hb
          omega) (by
          have := edgesOk_get hed j _ (hge j _ (Array.getElem?_eq_getElem hj)) e (by simpa using he) hb
          omega)⟩
        rw [hr] at this
        cases this
  have hfin : ∀ (listed : Array Bool) (a : Act) (w : World), listed.size = ops.size → (∀ j, j < ops.size → listed.getD j false = true) →
      (∃ E U, E.H = foldH s.H tr (fun k => listed.getD k false) ops.size ∧ WRel K E U w ∧ (∀ t, RepFV E w ((foldT s.T tr (fun k => listed.getD k false) ops.size t).getD .undef) (a.tmps.getD t undef)) ∧
        (∀ o, U o → o < s.nid ∨ ∃ i, listed.getD i false = true ∧ s.nid + 64 * i ≤ o ∧ o < s.nid + 64 * i + 64) ∧ a.defers = [] ∧ TmpOk N a) → Q .normal a w := by
    intro listed a w hsz hl ⟨E, U, h1, h2, h3, h4, h5, h6⟩
    refine hQ a w ⟨E, U, ?_, h2, fun t => ?_, fun o ho => ?_, h5, h6⟩
    · rw [h1, hsF]
      funext x
      show _ = foldH s.H tr (fun _ => true) _ x
      rw [hn]
      exact foldH_congr _ (fun k r hk _ _ => hl k hk)
    · have := h3 t
      rw [foldT_congr (S' := fun _ => true) _ (fun k r hk _ _ => hl k hk)] at this
      rw [hsF]
      show RepFV E w ((foldT s.T tr (fun _ => true) _ t).getD .undef) _
      rw [hn]
      exact this
    · rw [hsF]
      show o < s.nid + 64 * _
      rw [hn]
      rcases h4 o ho with h | ⟨i, hi, h⟩
      · omega
      · have : i < ops.size := by
          rcases Nat.lt_or_ge i listed.size with h' | h'
          · omega
          · simp [Array.getElem?_eq_none h'] at hi
        omega
  intro fuel
  induction fuel with
  | zero =>
    intro listed a w hc hsz hcl hR
    have hl := cntU_zero (Nat.le_zero.1 hc)
    have hl' : ∀ j, j < ops.size → listed.getD j false = true := fun j hj => by
      have := hl j hj
      have h2 : j < listed.size := by omega
      simp [h2] at this ⊢
      exact this
    refine ⟨?_, hfin listed a w hsz hl' hR⟩
    rw [List.eq_nil_iff_forall_not_mem]
    intro j hj
    obtain ⟨h0, o, ho, _⟩ := mem_ready.1 hj
    have := hl j (Array.getElem?_eq_some_iff.1 ho).1
    rw [this] at h0
    cases h0
  | succ fuel ih =>
    intro listed a w hc hsz hcl hR
    refine ⟨fun hr => hfin listed a w hsz (hall listed hsz hr) hR, fun i hi => ?_⟩
    obtain ⟨hun, o, ho, hpre⟩ := mem_ready.1 hi
    have hiN : i < ops.size := (Array.getElem?_eq_some_iff.1 ho).1
    have hun' : listed.getD i false = false := by
      have h2 : i < listed.size := by omega
      simp [h2] at hun ⊢
      exact hun
    obtain ⟨r, hr, hrd, hst⟩ := hget i o (hge i o ho)
    obtain ⟨E, U, h1, h2, h3, h4, h5, h6⟩ := hR
    have hbits : ∀ k, ((bef ops.toList []).getD i 0).testBit k = true → listed.getD k false = true := fun k hk =>
      hanc listed hcl i (fun o' ho' => by rw [ho] at ho'; cases ho'; exact hpre) k hk hiN
    have hother : ∀ k, listed.getD k false = true → ((bef ops.toList []).getD k 0).testBit i = true → False := fun k hk hb => by
      have hkN : k < ops.size := by
        rcases Nat.lt_or_ge k listed.size with h' | h'
        · omega
        · simp [Array.getElem?_eq_none h'] at hk
      have := hanc listed hcl k (fun o' ho' => hcl k o' ho' hk) i hb hkN
      rw [hun'] at this
      cases this
    -- who touches what this one looks at has been listed if and only if it stands ahead
    have hiff : ∀ k rk ok, k < ops.size → tr[k]? = some rk → ops.toList[k]? = some ok → (conf ops.toList ok o rk r = true) → (conf ops.toList o ok r rk = true) → listed.getD k false = decide (k < i) := fun k rk ok hk hrk hko hc1 hc2 => by
      rcases Nat.lt_trichotomy k i with hlt | rfl | hgt
      · rw [hbits k (okOrder_get hok hlt hko (hge i o ho) hrk hr hc1)]
        simp [hlt]
      · rw [hun']; simp
      · cases hq : listed.getD k false with
        | false => simp; omega
        | true => exact (hother k hq (okOrder_get hok hgt (hge i o ho) hko hr hrk hc2)).elim
    have hcut : i + (ops.size - i) = ops.size := by omega
    have hopk : ∀ (k : Nat) (rk : Rec), tr[k]? = some rk → ∃ ok : Oper, ops.toList[k]? = some ok ∧ rk.dst = ok.dst := fun k rk hrk => by
      have hlt : k < ops.toList.length := by rw [← htl]; exact (List.getElem?_eq_some_iff.1 hrk).1
      obtain ⟨r', g1, g2, _⟩ := hget k _ (List.getElem?_eq_getElem hlt)
      rw [hrk] at g1
      cases g1
      exact ⟨_, List.getElem?_eq_getElem hlt, g2⟩
    have hTeq : ∀ t, t ∈ looks ops.toList o → foldT s.T tr (fun k => listed.getD k false) ops.size t = (stAt s tr i).T t := fun t ht => by
      show _ = foldT s.T tr (fun _ => true) i t
      rw [← foldT_cut (ops.size - i), hcut]
      refine foldT_congr _ (fun k rk hk hrk hd => ?_)
      obtain ⟨ok, hok', hdk⟩ := hopk k rk hrk
      have hin : anyIn rk.dst.toList (looks ops.toList o) = true := by
        unfold anyIn
        rw [List.any_eq_true]
        exact ⟨t, by rw [hd]; simp, memL_iff.2 ht⟩
      exact hiff k rk ok hk hrk hok' (by unfold conf; simp [hin]) (by unfold conf; simp [hin])
    have hHeq : ∀ x, x ∈ r.e.rd → foldH s.H tr (fun k => listed.getD k false) ops.size x = (stAt s tr i).H x := fun x hx => by
      show _ = foldH s.H tr (fun _ => true) i x
      rw [← foldH_cut (ops.size - i), hcut]
      refine foldH_congr _ (fun k rk hk hrk htch => ?_)
      obtain ⟨ok, hok', hdk⟩ := hopk k rk hrk
      have hw : x ∈ wrR rk := by
        unfold wrR
        rcases htch with ⟨ob, h⟩ | h
        · exact List.mem_append_left _ (List.mem_map.2 ⟨_, lookL_mem h, rfl⟩)
        · exact List.mem_append_right _ h
      have hin : anyIn (wrR rk) r.e.rd = true := by
        unfold anyIn; rw [List.any_eq_true]; exact ⟨x, hw, memL_iff.2 hx⟩
      have hin2 : anyIn r.e.rd (wrR rk) = true := by
        unfold anyIn; rw [List.any_eq_true]; exact ⟨x, hx, memL_iff.2 hw⟩
      exact hiff k rk ok hk hrk hok' (by unfold conf; simp [hin]) (by unfold conf; simp [hin2])
    have hst' : Step1 P Δ ops.toList (evOf (foldT s.T tr (fun k => listed.getD k false) ops.size)) E.H (stAt s tr i).nid o r.e := by
      rw [h1]
      exact hst.congr hTeq hHeq
    refine step1_ok h2 (evOf_rep h3) (fun k hk hu => ?_) hΔ ho hst' (fun v w' hout => ?_)
    · have hu' : U (s.nid + 64 * i + k) := hu
      rcases h4 _ hu' with h | ⟨i', hi', h⟩
      · omega
      · have : i' = i := by omega
        subst this
        rw [hun'] at hi'
        cases hi'
    · obtain ⟨E', g1, g2, g3, g4⟩ := hout
      have hS' : ∀ k, (listed.setIfInBounds i true).getD k false = (listed.getD k false || decide (k = i)) := fun k => by
        by_cases hk : k = i
        · subst hk
          have h2 : k < listed.size := by omega
          simp [h2]
        · rw [getD_set_ne false (Ne.symm hk)]; simp [hk]
      have hcnt := cntU_set hun ops.size
      rw [if_pos hiN] at hcnt
      refine ih (listed.setIfInBounds i true) (a.put o.dst v) w' (by omega) (by simpa using hsz) (fun j oj hoj hlj e he hb => ?_) ⟨E', _, ?_, g3, fun t => ?_, fun x hx => ?_, put_rest.1.trans h5, h6.put (fun d hd => hdst o (List.mem_of_getElem? (hge i o ho)) d hd)⟩
      · rw [hS'] at hlj ⊢
        rw [Bool.or_eq_true]
        by_cases hji : j = i
        · subst hji
          rw [ho] at hoj
          cases hoj
          exact .inl (hpre e he hb)
        · simp only [hji, decide_false, Bool.or_false] at hlj
          exact .inl (hcl j oj hoj hlj e he hb)
      · rw [g1]
        funext x
        have := foldH_add (H0 := s.H) (S := fun k => listed.getD k false) (S' := fun k => (listed.setIfInBounds i true).getD k false) (x := x) hr hun' hS' ops.size (fun k rk hik hk hrk hSk ht1 ht2 => by
          obtain ⟨ok, hok', hdk⟩ := hopk k rk hrk
          have mem : ∀ (q : Rec), touchH q x → x ∈ wrR q := fun q hq => by
            unfold wrR
            rcases hq with ⟨ob, h⟩ | h
            · exact List.mem_append_left _ (List.mem_map.2 ⟨_, lookL_mem h, rfl⟩)
            · exact List.mem_append_right _ h
          have hin : anyIn (wrR r) (wrR rk) = true := by
            unfold anyIn; rw [List.any_eq_true]; exact ⟨x, mem r ht1, memL_iff.2 (mem rk ht2)⟩
          exact hother k hSk (okOrder_get hok hik (hge i o ho) hok' hr hrk (by unfold conf; simp [hin])))
        rw [if_pos hiN] at this
        rw [this, h1]
      · rw [put_getD h6.1 (fun d hd => (hdst o (List.mem_of_getElem? (hge i o ho)) d hd).1)]
        have := foldT_add (T0 := s.T) (S := fun k => listed.getD k false) (S' := fun k => (listed.setIfInBounds i true).getD k false) (t := t) hr hun' hS' ops.size (fun k rk hik hk hrk hSk hd1 hd2 => by
          obtain ⟨ok, hok', hdk⟩ := hopk k rk hrk
          have hin : anyIn r.dst.toList rk.dst.toList = true := by
            unfold anyIn; rw [List.any_eq_true]; exact ⟨t, by rw [hd1]; simp, memL_iff.2 (by rw [hd2]; simp)⟩
          exact hother k hSk (okOrder_get hok hik (hge i o ho) hok' hr hrk (by unfold conf; simp [hin])))
        rw [this, hrd]
        by_cases hc : o.dst = some t
        · rw [if_pos ⟨hiN, hc⟩, if_pos hc]; exact g4
        · rw [if_neg (fun h => hc h.2), if_neg hc]; exact RepFV.mono g2 _ _ (h3 t)
      · rcases hx with hx | hx
        · rcases h4 x hx with h | ⟨i', hi', h⟩
          · exact .inl h
          · exact .inr ⟨i', by rw [hS', hi']; rfl, h⟩
        · have hx' : s.nid + 64 * i ≤ x ∧ x < s.nid + 64 * i + 64 := hx
          exact .inr ⟨i, by rw [hS']; simp, hx'⟩
end
end Eng
end Go.Proofs.Ytjhcdndmbilogaa
