/-
  The engine, part 21: control, loops.
  CONDITIONS: those that each theorem names.
-/
import Derived.Test.YtjhcdndmbilogaaE20
namespace Go.Proofs.Ytjhcdndmbilogaa
namespace Eng
open Go Go.RowKit
set_option linter.unusedVariables false
set_option linter.unusedSimpArgs false

/-- What of a frame a loop's rounds hand on: the slots, and how. -/
structure LAnn where
  slots : List Nat
  ps : List PM

/-- A loop is known by its first region. -/
def keyOf : Code → Option Nat
  | .region id _ _ => some id
  | .seq a b => match keyOf a with
    | some k => some k
    | none => keyOf b
  | .cond _ a b => match keyOf a with
    | some k => some k
    | none => keyOf b
  | .block _ c => keyOf c
  | .loop c => keyOf c
  | _ => none

def big : Nat := 18446744073709551616

def stOf (ann : LAnn) (x : HP ann.ps) : St := match plPs 0 ann.ps x with
  | (fvs, objs, k) => ⟨ann.slots.zip fvs, objs, k⟩
def getA (ann : LAnn) (st : St) : Option (HP ann.ps) := match take (lookL st.hp) ann.ps (ann.slots.map fun t => (lookL st.sl t).getD .undef) with
  | some tk => some tk.x
  | none => none

def lpDen {R : Type} (F : St → (Exit → St → Option R) → Option R) (ann : LAnn) (K : Exit → St → Option R) : Nat → HP ann.ps → Option R
  | 0, _ => none
  | n + 1, x => F (stOf ann x) fun e st' => match e with
    | .normal => (getA ann st').bind (lpDen F ann K n)
    | e => K e st'

/-- What holds of a function's frame: how many slots, and those that nobody writes. -/
def dstOk (nt : Nat) (fp : List Nat) (ops : List Oper) : Bool := ops.all fun o => match o.dst with
  | some d => Nat.blt d nt && !memL d fp
  | none => true

def litOp (st : St) (c : Operand) (b : Bool) : St := match c with
  | .tmp t => st.lit t b
  | _ => st

section
variable (P : Program) (Δ : Tbl) (nt : Nat) (fp : List Nat) (la : Nat → Option LAnn)

def evC {R : Type} : Code → St → (Exit → St → Option R) → Option R
  | .skip, st, K => K .normal st
  | .region _ ops draw, st, K => match dstOk nt fp ops.toList with
    | true => match draw with
      | false => evOps P Δ ops.toList ops.toList st [] fun st' _ => K .normal st'
      | true => match edgesOk 0 ops.toList with
        | true => evOps P Δ ops.toList ops.toList st [] fun st' log => match okOrder ops.toList log with
          | true => K .normal st'
          | false => none
        | false => none
    | false => none
  | .seq a b, st, K => evC a st fun e st' => match e with
    | .normal => evC b st' K
    | e => K e st'
  | .cond c a b, st, K => match st.ev c with
    | .c (.v (.bool t)) => if t = true then evC a (litOp st c true) K else evC b (litOp st c false) K
    | _ => none
  | .block id body, st, K => evC body st fun e st' => match e with
    | .exit j => match Nat.beq j id with
      | true => K .normal st'
      | false => K (.exit j) st'
    | e => K e st'
  | .loop body, st, K => match keyOf body with
    | some k => match la k with
      | some ann => (getA ann st).bind (lpDen (fun st' K' => evC body st' K') ann K big)
      | none => none
    | none => none
  | .exit id, st, K => K (.exit id) st
  | .ret, st, K => K .ret st
  | _, _, _ => none
end

theorem least (S : Nat → Prop) (h : ∃ n, S n) : ∃ n, S n ∧ ∀ m, S m → n ≤ m := by
  obtain ⟨n, hn⟩ := h
  induction n using Nat.strongRecOn with
  | _ n ih =>
    by_cases h2 : ∃ m, m < n ∧ S m
    · obtain ⟨m, hm, hs⟩ := h2
      exact ih m hm hs
    · refine ⟨n, hn, fun m hm => ?_⟩
      rcases Nat.lt_or_ge m n with h | h
      · exact absurd ⟨m, h, hm⟩ h2
      · exact h

open Classical in
/-- A loop whose rounds are counted down. -/
theorem wp_loop_idx {P : Program} {Q : Exit → Act → World → Prop} {c : Code} (I : Nat → Act → World → Prop)
    (round : ∀ n a w, I n a w → c.wp P (Exit.then (fun a' w' => ∃ m, m < n ∧ I m a' w') Q) a w) {n : Nat} {a : Act} {w : World} (h : I n a w) : (Code.loop c).wp P Q a w := by
  refine wp_loop (fun a w => ∃ n, I n a w) (fun a w => if h : ∃ n, I n a w then Classical.choose (least _ h) else 0) ⟨n, h⟩ (fun a w hI => ?_)
  have hs := Classical.choose_spec (least _ hI)
  simp only [dif_pos hI]
  refine wp_mono (round _ a w hs.1) (fun e a' w' he => ?_)
  cases e with
  | normal =>
    obtain ⟨m, hm, hIm⟩ := he
    have hI' : ∃ n, I n a' w' := ⟨m, hIm⟩
    refine ⟨hI', ?_⟩
    rw [dif_pos hI']
    exact Nat.lt_of_le_of_lt ((Classical.choose_spec (least _ hI')).2 m hIm) hm
  | _ => exact he

section
variable {P : Program} {Δ : Tbl} {K : Ctx} {N : Fix}

theorem litOp_fs {st : St} {c : Operand} {b : Bool} (h : st.ev c = .c (.v (.bool b))) : (litOp st c b).fs = st.fs := by
  cases c with
  | tmp t =>
    refine St.lit_fs ?_
    have h' : (lookL st.sl t).getD .undef = .c (.v (.bool b)) := h
    cases hq : lookL st.sl t with
    | none => rw [hq] at h'; cases h'
    | some x => rw [hq] at h'; simp only [Option.getD_some] at h'; rw [h']
  | _ => rfl

theorem dstOk_spec {ops : List Oper} (h : dstOk N.nt N.fp ops = true) : ∀ o ∈ ops, ∀ d, o.dst = some d → SlotOk N d := fun o ho d hd => by
  unfold dstOk at h
  rw [List.all_eq_true] at h
  have := h o ho
  rw [hd] at this
  simp only [Bool.and_eq_true, Bool.not_eq_true'] at this
  refine ⟨by simpa [Nat.blt_eq] using this.1, fun hm => ?_⟩
  rw [memL_iff.2 hm] at this
  cases this.2

theorem lookL_zip : ∀ {slots : List Nat} {fvs : List FV} {t : Nat} {f : FV}, lookL (slots.zip fvs) t = some f → ∃ (i : Nat), slots[i]? = some t ∧ fvs[i]? = some f
  | [], fvs, t, f, h => by simp [lookL] at h
  | s :: slots, [], t, f, h => by simp [lookL] at h
  | s :: slots, g :: fvs, t, f, h => by
    rw [List.zip_cons_cons, lookL_cons] at h
    split at h
    · rename_i e
      subst e
      cases h
      exact ⟨0, rfl, rfl⟩
    · obtain ⟨i, h1, h2⟩ := lookL_zip h
      exact ⟨i + 1, by simpa using h1, by simpa using h2⟩

/-- A frame is told by fewer slots. -/
theorem Rel.norm {ann : LAnn} {st : St} {x : HP ann.ps} {a : Act} {w : World} (hg : getA ann st = some x) (h : Rel K N st.fs a w) : Rel K N (stOf ann x).fs a w := by
  obtain ⟨E, U, hH, hW, hT, hU, hd, htm⟩ := h
  unfold getA at hg
  split at hg
  · rename_i tk htk
    cases hg
    have hH' : E.H = lookL st.hp := hH
    rw [← hH'] at htk
    have hvals : RepFVs E w (ann.slots.map fun t => (lookL st.sl t).getD .undef) (ann.slots.map fun t => a.tmps.getD t undef) :=
      RepFVs.of_get (by simp) (fun i f v hf hv => by
        rw [List.getElem?_map] at hf hv
        obtain ⟨t, ht, rfl⟩ := Option.map_eq_some_iff.1 hf
        rw [ht] at hv
        cases hv
        exact hT t)
    obtain ⟨E1, pls, e1, e2, hl1, hW1, hsem, hsrc, hobj, hnd, _⟩ := take_ok hW htk hvals
    have hpok := SrcPl.ok hW1 hsrc hobj hnd
    have hin : ∀ b, inPl pls b → K.w0.heap.size ≤ b ∨ K.M b := fun b ⟨off, ho⟩ => by
      obtain ⟨i, hi⟩ := List.mem_iff_getElem?.1 ho
      have hlt : i < tk.srcs.length := by rw [hsrc.len]; exact (List.getElem?_eq_some_iff.1 hi).1
      have hs := List.getElem?_eq_getElem hlt
      have hat := hsrc.at_ i _ _ hs hi
      cases hq : tk.srcs[i] with
      | none => rw [hq] at hat; cases hat
      | some o =>
        rw [hq] at hat hs
        obtain ⟨ob, hob⟩ := hobj o (List.mem_of_getElem? hs)
        exact (hW1.mine o ob b off hob hat).1
    obtain ⟨ρ, hW2, hfv, _, _⟩ := WRel.enter (J := K.J) (G := K.G) (w0 := K.w0) (M := K.M) (Z0 := K.Z0) 0 hsem hpok hin hW1.zlt hW1.zw hW1.z0 hW1.keep hW1.fr hW1.g hW1.js hW1.j
    obtain ⟨n1, n2⟩ := plPs_nums (k := 0) hsem
    refine ⟨_, _, ?_, hW2, fun t => ?_, fun o ho => ?_, hd, htm⟩
    · rfl
    · show RepFV _ w ((lookL (ann.slots.zip (plPs 0 ann.ps tk.x).1) t).getD .undef) _
      cases hq : lookL (ann.slots.zip (plPs 0 ann.ps tk.x).1) t with
      | none => simp only [Option.getD_none]; unfold RepFV; trivial
      | some f =>
        simp only [Option.getD_some]
        obtain ⟨i, h1, h2⟩ := lookL_zip hq
        exact (RepFVs.get hfv).2 i f _ h2 (by rw [List.getElem?_map, h1]; rfl)
    · show o < (plPs 0 ann.ps tk.x).2.2
      rw [n1]
      exact ho.2
  · cases hg

theorem foldT_none {T0 : Nat → Option FV} {tr : List Rec} {S : Nat → Bool} {t : Nat} (h : ∀ k, S k = false) : ∀ m, foldT T0 tr S m t = T0 t
  | 0 => rfl
  | m + 1 => by
    unfold foldT
    rw [h m]
    cases tr[m]? <;> simp [foldT_none h m]
theorem foldH_none {H0 : Hp} {tr : List Rec} {S : Nat → Bool} {x : Nat} (h : ∀ k, S k = false) : ∀ m, foldH H0 tr S m x = H0 x
  | 0 => rfl
  | m + 1 => by
    unfold foldH
    rw [h m]
    cases tr[m]? <;> simp [foldH_none h m]

theorem Rel.drew {s : FS} {a : Act} {w : World} (h : Rel K N s a w) : Rel K N s a w.drew := by
  obtain ⟨E, U, hH, hW, hT, hU, hd, htm⟩ := h
  exact ⟨E, U, hH, hW.drew, fun t => RepFV.mono (Le.drew E w) _ _ (hT t), hU, hd, htm⟩

theorem evC_ok (hm : P.follows .mixedOrders = true) (hΔ : TblOk P K.J K.G Δ) (la : Nat → Option LAnn) {R : Type} {r : R} : ∀ (c : Code) (st : St) (Kt : Exit → St → Option R), evC P Δ N.nt N.fp la c st Kt = some r →
    ∀ (a : Act) (w : World) (Q : Exit → Act → World → Prop), Rel K N st.fs a w → (∀ e st' a' w', Kt e st' = some r → Rel K N st'.fs a' w' → Q e a' w') → c.wp P Q a w := by
  intro c
  induction c with
  | skip => intro st Kt h a w Q hR hQ; exact wp_skip (hQ _ _ _ _ h hR)
  | region id ops draw =>
    intro st Kt h a w Q hR hQ
    unfold evC at h
    split at h
    · rename_i hdst
      have hds := dstOk_spec (N := N) hdst
      split at h
      · obtain ⟨l, st', htr, hk⟩ := evOps_tr _ h
        refine wp_region ?_
        have := seq_ok (Q := Q) hΔ hds ops.toList 0 htr (by simp) hR (fun a' w' hR' => hQ _ _ _ _ hk hR')
        rw [Array.length_toList] at this
        rw [List.range_eq_range']
        exact this
      · split at h
        · rename_i hed
          obtain ⟨l, st', htr, hk⟩ := evOps_tr _ h
          split at hk
          · rename_i hok
            rw [List.nil_append] at hok
            refine wp_region_any hm ?_
            have hR' := hR.drew
            obtain ⟨E, U, hH, hW, hT, hU, hd, htm⟩ := hR'
            have hfalse : ∀ k, (Array.replicate ops.size false).getD k false = false := fun k => by
              by_cases hk : k < ops.size <;> simp [hk]
            refine any_ok hΔ hds hed htr hok (fun a' w' hR' => hQ _ _ _ _ hk hR') ops.size _ a w.drew ?_ (by simp) (fun j o ho hl => by rw [hfalse] at hl; cases hl) ⟨E, U, ?_, hW, fun t => ?_, fun o ho => .inl (hU o ho), hd, htm⟩
            · have : ∀ m, cntU (Array.replicate ops.size false) m ≤ m := fun m => by
                induction m with
                | zero => exact Nat.le_refl _
                | succ m ih => unfold cntU; split <;> omega
              exact this _
            · rw [hH]; funext x; rw [foldH_none hfalse]
            · rw [foldT_none hfalse]; exact hT t
          · cases hk
        · cases h
    · cases h
  | seq c1 c2 ih1 ih2 =>
    intro st Kt h a w Q hR hQ
    unfold evC at h
    refine wp_seq (ih1 st _ h a w _ hR (fun e st' a' w' hk hR' => ?_))
    cases e with
    | normal => exact ih2 st' Kt hk a' w' Q hR' hQ
    | _ => exact hQ _ _ _ _ hk hR'
  | cond c x y ih1 ih2 =>
    intro st Kt h a w Q hR hQ
    unfold evC at h
    split at h
    · rename_i t hc
      have hev : a.eval c = .bool t := by
        obtain ⟨E, U, hH, hW, hT, hU, hd, htm⟩ := hR
        have := evOf_rep hT c
        have hc' : evOf st.fs.T c = .c (.v (.bool t)) := hc
        rw [hc'] at this
        exact this.v_eq
      refine wp_cond hev ?_
      split at h
      · rename_i ht
        subst ht
        exact ih1 _ Kt h a w Q (by rw [litOp_fs hc]; exact hR) hQ
      · rename_i ht
        have ht' : t = false := by cases t <;> simp_all
        subst ht'
        exact ih2 _ Kt h a w Q (by rw [litOp_fs hc]; exact hR) hQ
    · cases h
  | block id body ih =>
    intro st Kt h a w Q hR hQ
    unfold evC at h
    refine wp_block (ih st _ h a w _ hR (fun e st' a' w' hk hR' => ?_))
    cases e with
    | exit j =>
      simp only at hk
      show if j = id then Q .normal a' w' else Q (.exit j) a' w'
      split at hk
      · rename_i hj
        rw [if_pos (Nat.eq_of_beq_eq_true hj)]
        exact hQ _ _ _ _ hk hR'
      · rename_i hj
        rw [if_neg (fun e => by subst e; simp at hj)]
        exact hQ _ _ _ _ hk hR'
    | _ => exact hQ _ _ _ _ hk hR'
  | loop body ih =>
    intro st Kt h a w Q hR hQ
    unfold evC at h
    split at h
    · split at h
      · rename_i ann hann
        rw [Option.bind_eq_some_iff] at h
        obtain ⟨x, hx, h⟩ := h
        refine wp_loop_idx (fun n a w => ∃ x, lpDen (fun st' K' => evC P Δ N.nt N.fp la body st' K') ann Kt n x = some r ∧ Rel K N (stOf ann x).fs a w) (fun n a w hI => ?_) ⟨x, h, hR.norm hx⟩
        obtain ⟨x, hl, hRx⟩ := hI
        cases n with
        | zero => simp [lpDen] at hl
        | succ n =>
          unfold lpDen at hl
          refine ih _ _ hl a w _ hRx (fun e st' a' w' hk hR' => ?_)
          cases e with
          | normal =>
            simp only at hk
            rw [Option.bind_eq_some_iff] at hk
            obtain ⟨x', hx', hk⟩ := hk
            exact ⟨n, Nat.lt_succ_self n, x', hk, hR'.norm hx'⟩
          | _ => exact hQ _ _ _ _ hk hR'
      · cases h
    · cases h
  | exit id => intro st Kt h a w Q hR hQ; exact wp_exit (hQ _ _ _ _ h hR)
  | ret => intro st Kt h a w Q hR hQ; exact wp_ret (hQ _ _ _ _ h hR)
  | _ => intro st Kt h a w Q hR hQ; simp [evC] at h
end
end Eng
end Go.Proofs.Ytjhcdndmbilogaa
