/-
  The engine, part 18: a region's operations in any order.
  CONDITIONS: those that each theorem names.
-/
import Derived.Test.YtjhcdndmbilogaaE17
namespace Go.Proofs.Ytjhcdndmbilogaa
namespace Eng
open Go Go.RowKit
set_option linter.unusedVariables false
set_option linter.unusedSimpArgs false

theorem frz_ids {H : Hp} : ∀ {xc xd : List C} {ps : List (Nat × Obj)}, frz H xc = some (xd, ps) → ∀ o, o ∈ refs xc → o ∈ ps.map (·.1)
  | [], xd, ps, h, o, ho => by simp [refs] at ho
  | .all o' es :: r, xd, ps, h, o, ho => by
    simp only [frz] at h
    split at h
    · split at h
      · split at h
        · rename_i ds ps' hr
          cases h
          simp only [refs, List.mem_cons] at ho
          rcases ho with rfl | ho
          · simp
          · simp only [List.map_cons, List.mem_cons]; exact .inr (frz_ids hr o ho)
        · cases h
      · cases h
    · cases h
  | .part o' es lo n :: r, xd, ps, h, o, ho => by
    simp only [frz] at h
    split at h
    · split at h
      · split at h
        · rename_i ds ps' hr
          cases h
          simp only [refs, List.mem_cons] at ho
          rcases ho with rfl | ho
          · simp
          · simp only [List.map_cons, List.mem_cons]; exact .inr (frz_ids hr o ho)
        · cases h
      · cases h
    · cases h
  | .v x :: r, xd, ps, h, o, ho => by
    simp only [frz] at h
    split at h
    · rename_i ds ps' hr
      cases h
      exact frz_ids hr o (by simpa [refs] using ho)
    · cases h
  | .e x :: r, xd, ps, h, o, ho => by
    simp only [frz] at h
    split at h
    · rename_i ds ps' hr
      cases h
      exact frz_ids hr o (by simpa [refs] using ho)
    · cases h
  | .sl t x :: r, xd, ps, h, o, ho => by
    simp only [frz] at h
    split at h
    · rename_i ds ps' hr
      cases h
      exact frz_ids hr o (by simpa [refs] using ho)
    · cases h

theorem tkMs_congr {H H' : Hp} : ∀ {ms : List M1} {cs ds ds' : List C} {x : HT ms} {ss : List (Option Nat)}, tkMs H ms cs ds = some (x, ds', ss) → (∀ o, some o ∈ ss → H' o = H o) → tkMs H' ms cs ds = some (x, ds', ss)
  | [], [], ds, ds', x, ss, h, hH => h
  | [], _ :: _, ds, ds', x, ss, h, hH => by simp [tkMs] at h
  | .dat t :: ms, cs, ds, ds', x, ss, h, hH => by
    simp only [tkMs] at h ⊢
    split at h
    · split at h
      · split at h
        · rename_i r d1 s1 hr
          cases h
          rw [tkMs_congr hr hH]
        · cases h
      · cases h
    · cases h
  | .own fz t :: ms, c :: cs, ds, ds', x, ss, h, hH => by
    simp only [tkMs] at h ⊢
    split at h
    · rename_i o es
      split at h
      · rename_i fz' t' xs hHo
        split at h
        · rename_i ht
          split at h
          · rename_i hf
            split at h
            · rename_i hes
              split at h
              · rename_i r d1 s1 hr
                cases h
                rw [hH o (by simp), hHo]
                simp only
                rw [dif_pos ht, if_pos hf]
                rw [tkMs_congr hr (fun o' ho' => hH o' (by simp [ho']))]
              · cases h
            · cases h
          · cases h
        · cases h
      · cases h
    · split at h
      · rename_i r d1 s1 hr
        cases h
        rw [tkMs_congr hr (fun o' ho' => hH o' (by simp [ho']))]
      · cases h
    · cases h
  | .own fz t :: ms, [], ds, ds', x, ss, h, hH => by simp [tkMs] at h

theorem cellsP_congr {H H' : Hp} {p : PM} {f : FV} (h : ∀ ms o, p = .ptr ms → f = .pb o 0 → H' o = H o) : cellsP H' p f = cellsP H p f := by
  unfold cellsP
  split
  · rfl
  · rfl
  · rename_i ms o; rw [h ms o rfl rfl]
  · rfl
theorem tkP_ptr {H0 H : Hp} {p : PM} {f : FV} {ds ds' : List C} {x : p.T} {ss : List (Option Nat)} (h : tkP H0 H p f ds = some (x, ds', ss)) : ∀ ms o, p = .ptr ms → f = .pb o 0 → some o ∈ ss := by
  intro ms o hp hf
  subst hp
  subst hf
  simp only [tkP] at h
  split at h
  · split at h
    · cases h; simp
    · cases h
  · cases h
theorem tkP_congr {H0 H H0' H' : Hp} {p : PM} {f : FV} {ds ds' : List C} {x : p.T} {ss : List (Option Nat)} (h : tkP H0 H p f ds = some (x, ds', ss)) (hH : ∀ o, some o ∈ ss → H' o = H o) (hH0 : ∀ o, some o ∈ ss → H0' o = H0 o) : tkP H0' H' p f ds = some (x, ds', ss) := by
  have hc := cellsP_congr (H := H0) (H' := H0') (p := p) (f := f) (fun ms o hp hf => hH0 o (tkP_ptr h ms o hp hf))
  cases p with
  | c m =>
    simp only [tkP, hc] at h ⊢
    split at h
    · split at h
      · rename_i x1 d1 s1 hr
        cases h
        rw [tkMs_congr hr hH]
      · cases h
    · cases h
  | agg ms =>
    simp only [tkP, hc] at h ⊢
    split at h
    · rw [tkMs_congr h hH]
    · cases h
  | ptr ms =>
    simp only [tkP] at h ⊢
    split at h
    · rw [hc]
      split at h
      · split at h
        · rename_i x1 d1 s1 hr
          cases h
          rw [tkMs_congr hr (fun o' ho' => hH o' (by simp [ho']))]
        · cases h
      · cases h
    · cases h
theorem tkPs_congr {H0 H H0' H' : Hp} : ∀ {ps : List PM} {fs : List FV} {ds : List C} {x : HP ps} {ss : List (Option Nat)}, tkPs H0 H ps fs ds = some (x, ss) → (∀ o, some o ∈ ss → H' o = H o) → (∀ o, some o ∈ ss → H0' o = H0 o) →
    tkPs H0' H' ps fs ds = some (x, ss) ∧ dcPs H0' ps fs = dcPs H0 ps fs
  | [], [], [], x, ss, h, hH, hH0 => ⟨h, rfl⟩
  | [], [], _ :: _, x, ss, h, hH, hH0 => by simp [tkPs] at h
  | p :: ps, f :: fs, ds, x, ss, h, hH, hH0 => by
    simp only [tkPs] at h ⊢
    split at h
    · rename_i x1 d1 s1 h1
      split at h
      · rename_i r s2 h2
        cases h
        have a := tkP_congr (H0' := H0') (H' := H') h1 (fun o ho => hH o (by simp [ho])) (fun o ho => hH0 o (by simp [ho]))
        have b := tkPs_congr (H0' := H0') (H' := H') h2 (fun o ho => hH o (by simp [ho])) (fun o ho => hH0 o (by simp [ho]))
        refine ⟨?_, ?_⟩
        · rw [a]
          simp only
          rw [b.1]
        · simp only [dcPs]
          rw [cellsP_congr (fun ms o hp hf => hH0 o (by simp [tkP_ptr h1 ms o hp hf])), b.2]
      · cases h
    · cases h
  | [], _ :: _, ds, x, ss, h, hH, hH0 => by simp [tkPs] at h
  | _ :: _, [], ds, x, ss, h, hH, hH0 => by simp [tkPs] at h

theorem take_congr {H H' : Hp} {ps : List PM} {fs : List FV} {tk : Taken ps} (h : take H ps fs = some tk) (hH : ∀ o, o ∈ idsS tk.srcs ++ tk.puts.map (·.1) → H' o = H o) : take H' ps fs = some tk := by
  unfold take at h ⊢
  split at h
  · rename_i dcs hdc
    split at h
    · rename_i ds puts hf
      split at h
      · rename_i x ss htk
        split at h
        · rename_i hnd
          cases h
          simp only at hH
          have hs : ∀ o, some o ∈ ss → H' o = H o := fun o ho => hH o (List.mem_append_left _ (idsS_mem.2 ho))
          have hp : ∀ o, some o ∈ ss → putsH puts H' o = putsH puts H o := fun o ho => by unfold putsH; rw [hs o ho]
          obtain ⟨a, b⟩ := tkPs_congr htk hp hs
          rw [b, hdc]
          simp only
          rw [frz_congr hf (fun o ho => hH o (List.mem_append_right _ (frz_ids hf o ho)))]
          simp only
          rw [a]
          simp only
          rw [hnd]
        · cases h
      · cases h
    · cases h
  · cases h

theorem callEff_rd {nid : Nat} {ps rs : List PM} {fs : List FV} {tk : Taken ps} {y : HP rs × HP (outsP ps)} {e : Eff} (he : callEff nid ps rs fs tk y = some e) : e.rd = idsS tk.srcs ++ tk.puts.map (·.1) := by
  obtain ⟨rfv, robjs, n1, hpl⟩ : ∃ rfv robjs n1, plPs nid rs y.1 = (rfv, robjs, n1) := ⟨_, _, _, rfl⟩
  simp only [callEff, hpl] at he
  split at he
  · split at he
    · cases he; rfl
    · cases he
  · cases he

/-- The slots that an operation looks at. -/
def looks (ops : List Oper) (o : Oper) : List Nat :=
  (o.op.operands.toList.filterMap fun x => match x with | .tmp t => some t | _ => none) ++ (match o.guard with | some (g, _) => (gslot ops g).toList | none => [])

theorem Step1.congr {P : Program} {Δ : Tbl} {ops : List Oper} {T T' : Nat → Option FV} {H H' : Hp} {nid : Nat} {o : Oper} {e : Eff} (h : Step1 P Δ ops (evOf T) H nid o e)
    (hT : ∀ t, t ∈ looks ops o → T' t = T t) (hH : ∀ x, x ∈ e.rd → H' x = H x) : Step1 P Δ ops (evOf T') H' nid o e := by
  have hev : ∀ x ∈ o.op.operands, evOf T' x = evOf T x := fun x hx => by
    cases x with
    | tmp t =>
      show (T' t).getD .undef = (T t).getD .undef
      rw [hT t (List.mem_append_left _ (List.mem_filterMap.2 ⟨.tmp t, by simpa using hx, rfl⟩))]
    | _ => rfl
  have hg : ∀ b, GuardIs (evOf T) ops o b → GuardIs (evOf T') ops o b := fun b hb => by
    unfold GuardIs at hb ⊢
    split at hb
    · exact hb
    · rename_i g want hgd
      obtain ⟨t, ht, hv⟩ := hb
      refine ⟨t, ht, ?_⟩
      have he : evOf T' (.tmp t) = evOf T (.tmp t) := by
        show (T' t).getD .undef = (T t).getD .undef
        rw [hT t (List.mem_append_right _ (by rw [hgd]; simp [ht]))]
      rw [he]
      exact hv
  cases h with
  | skip h1 => exact .skip (hg _ h1)
  | plain _ h1 h2 => exact .plain _ (hg _ h1) (opEff_congr h2 hev hH)
  | call c x g caps ent tk y _ h1 ho hc hx hent htk hy he =>
    have hargs : c.args.toList.map (evOf T') = c.args.toList.map (evOf T) := List.map_congr_left fun z hz => hev z (by
      rw [ho]
      simp only [Op.operands, Call.operands]
      rw [Array.mem_append]
      exact .inr (by simpa using hz))
    have hcal : evOf T' x = evOf T x := hev x (by
      rw [ho]
      simp only [Op.operands, Call.operands, hc]
      rw [Array.mem_append]
      exact .inl (by simp))
    refine .call c x g caps ent tk y _ (hg _ h1) ho hc (by rw [hcal]; exact hx) hent ?_ hy (by rw [hargs]; exact he)
    rw [hargs]
    exact take_congr htk (fun o' ho' => hH o' (by rw [callEff_rd he]; exact ho'))
end Eng
end Go.Proofs.Ytjhcdndmbilogaa
