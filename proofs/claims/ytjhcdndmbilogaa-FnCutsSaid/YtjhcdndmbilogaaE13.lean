/-
  The engine, part 13: taking values out of a frame, and a frame made of values.
  CONDITIONS: those that each theorem names.
-/
import Derived.Test.YtjhcdndmbilogaaE12
namespace Go.Proofs.Ytjhcdndmbilogaa
namespace Eng
open Go Go.RowKit
set_option linter.unusedVariables false
set_option linter.unusedSimpArgs false

structure SrcPl (ρ : Place) (ss : List (Option Nat)) (pls : List Pl) : Prop where
  len : ss.length = pls.length
  at_ : ∀ (i : Nat) (s : Option Nat) (p : Pl), ss[i]? = some s → pls[i]? = some p → (match s with | some o => ρ o = some p | none => p = .virt)
theorem SrcPl.nil (ρ : Place) : SrcPl ρ [] [] := ⟨rfl, fun i s p h => by simp at h⟩
theorem SrcPl.append {ρ : Place} {s1 s2 : List (Option Nat)} {p1 p2 : List Pl} (h : SrcPl ρ s1 p1) (k : SrcPl ρ s2 p2) : SrcPl ρ (s1 ++ s2) (p1 ++ p2) :=
  ⟨by simp [h.len, k.len], fun i s p hs hp => by
    by_cases hi : i < s1.length
    · rw [List.getElem?_append_left hi] at hs
      rw [List.getElem?_append_left (by rw [← h.len]; exact hi)] at hp
      exact h.at_ i s p hs hp
    · rw [List.getElem?_append_right (by omega)] at hs
      rw [List.getElem?_append_right (by rw [← h.len]; omega), ← h.len] at hp
      exact k.at_ _ s p hs hp⟩
theorem SrcPl.one {ρ : Place} {s : Option Nat} {p : Pl} (h : match s with | some o => ρ o = some p | none => p = .virt) : SrcPl ρ [s] [p] :=
  ⟨rfl, fun i s' p' hs hp => by
    cases i with
    | zero => simp at hs hp; subst hs; subst hp; exact h
    | succ i => simp at hs⟩

theorem dcM_rep {E : Env} {w : World} : ∀ (ms : List M1) {cs : List C} {us : List Value}, RepCs E w cs us → RepCs E w (dcM ms cs) (dcM ms us)
  | [], cs, us, h => RepCs.nil
  | .dat t :: ms, cs, us, h => (h.take _).append (dcM_rep ms (h.drop _))
  | .own _ _ :: ms, cs, us, h => dcM_rep ms (h.drop 1)

/-- The value of a mode, and its cells' values. -/
def ValP (E : Env) (w : World) (p : PM) (f : FV) (v : Value) (us : List Value) : Prop := match p with
  | .c _ => us = [v]
  | .agg _ => v = .agg us.toArray
  | .ptr _ => ∃ o b off cs, f = .pb o 0 ∧ E.H o = some (.box cs) ∧ E.ρ o = some (.at b off) ∧ v = .pointer (some ⟨b, off, none⟩) ∧ BoxO E.Z w b off us

def VPs (E : Env) (w : World) : List PM → List FV → List Value → List Value → Prop
  | [], [], vals, dvs => vals = [] ∧ dvs = []
  | p :: ps, f :: fs, vals, dvs => ∃ v vals' cs us d', vals = v :: vals' ∧ cellsP E.H p f = some cs ∧ RepCs E w cs us ∧ ValP E w p f v us ∧ dvs = dcM p.ms us ++ d' ∧ VPs E w ps fs vals' d'
  | _, _, _, _ => False

section
variable {K : Ctx} {E E1 : Env} {U : Nat → Prop} {w : World}

theorem cellsP_ok (hW : WRel K E U w) {p : PM} {f : FV} {cs : List C} {v : Value} (hc : cellsP E.H p f = some cs) (hv : RepFV E w f v) : ∃ us, RepCs E w cs us ∧ ValP E w p f v us := by
  unfold cellsP at hc
  split at hc
  · cases hc
    unfold RepFV at hv
    exact ⟨[v], RepCs.single hv, rfl⟩
  · cases hc
    unfold RepFV at hv
    obtain ⟨vs, rfl, h⟩ := hv
    exact ⟨vs, h, rfl⟩
  · rename_i ms o
    split at hc
    · rename_i cs' hH
      cases hc
      unfold RepFV at hv
      obtain ⟨b, off, hp, rfl⟩ := hv
      obtain ⟨b', off', hp', hz, hcl, hcell⟩ := hW.obj o _ hH
      rw [hp] at hp'
      cases hp'
      obtain ⟨us, h1, h2⟩ := reps_of (E := E) (w := w) (cs := cs) (b := b) (off := off) (fun j c hj => by
        obtain ⟨u, h1, _, h3⟩ := hcell j c hj
        exact ⟨u, h1, h3⟩)
      exact ⟨us, h1, o, b, off, cs, rfl, hH, hp, rfl, hz, by rw [h1.1]; exact hcl, fun j u hj => ⟨h2 j u hj, h1.ones u (List.mem_of_getElem? hj)⟩⟩
    · cases hc
  · cases hc

theorem dcPs_ok (hW : WRel K E U w) : ∀ (ps : List PM) (fs : List FV) {dcs : List C} {vals : List Value}, dcPs E.H ps fs = some dcs → RepFVs E w fs vals → ∃ dvs, VPs E w ps fs vals dvs ∧ RepCs E w dcs dvs
  | [], [], dcs, vals, h, hv => by
    simp only [dcPs, Option.some.injEq] at h
    subst h
    unfold RepFVs at hv
    subst hv
    exact ⟨[], ⟨rfl, rfl⟩, RepCs.nil⟩
  | p :: ps, f :: fs, dcs, vals, h, hv => by
    simp only [dcPs] at h
    split at h
    · rename_i cs hc
      split at h
      · rename_i r hr
        cases h
        unfold RepFVs at hv
        obtain ⟨v, vals', rfl, h1, h2⟩ := hv
        obtain ⟨us, h3, h4⟩ := cellsP_ok hW hc h1
        obtain ⟨d', h5, h6⟩ := dcPs_ok hW ps fs hr h2
        exact ⟨_, ⟨v, vals', cs, us, d', rfl, hc, h3, h4, rfl, h5⟩, (dcM_rep p.ms h3).append h6⟩
      · cases h
    · cases h
  | [], _ :: _, dcs, vals, h, hv => by simp [dcPs] at h
  | _ :: _, [], dcs, vals, h, hv => by simp [dcPs] at h

theorem VPs.mono (hl : Le E w E1 w) (hW1 : WRel K E1 U w) (hρ : E1.ρ = E.ρ) (hbox : ∀ o cs, E.H o = some (.box cs) → E1.H o = some (.box cs)) : ∀ (ps : List PM) (fs : List FV) {vals dvs : List Value}, VPs E w ps fs vals dvs → VPs E1 w ps fs vals dvs
  | [], [], vals, dvs, h => h
  | p :: ps, f :: fs, vals, dvs, h => by
    obtain ⟨v, vals', cs, us, d', rfl, h1, h2, h3, rfl, h4⟩ := h
    refine ⟨v, vals', cs, us, d', rfl, ?_, h2.mono hl, ?_, rfl, VPs.mono hl hW1 hρ hbox ps fs h4⟩
    · unfold cellsP at h1 ⊢
      split at h1
      · exact h1
      · exact h1
      · split at h1
        · rename_i hH
          rw [hbox _ _ hH]
          exact h1
        · cases h1
      · cases h1
    · unfold ValP at h3 ⊢
      split at h3
      · exact h3
      · exact h3
      · obtain ⟨o, b, off, cs', h5, h6, h7, h8, h9⟩ := h3
        have h6' := hbox _ _ h6
        refine ⟨o, b, off, cs', h5, h6', by rw [hρ]; exact h7, h8, ?_, h9.2⟩
        obtain ⟨b', off', hp', hz, _⟩ := hW1.obj o _ h6'
        rw [hρ, h7] at hp'
        cases hp'
        exact hz
  | [], _ :: _, vals, dvs, h => h.elim
  | _ :: _, [], vals, dvs, h => h.elim

theorem RowO.of (hW : WRel K E U w) {o : Nat} {fz fz' : Bool} {t : Ty} {xs : List t.T} (hH : E.H o = some (.row fz t xs)) (hf : fz = true → fz' = true) {p : Pl} (hp : E.ρ o = some p) : RowO E.Z w p fz' t xs := by
  rcases hW.obj o _ hH with ⟨h1, h2⟩ | ⟨b, off, h1, h2, h3⟩
  · rw [hp] at h1; cases h1; exact .inl ⟨rfl, h2⟩
  · rw [hp] at h1
    cases h1
    exact .inr ⟨b, off, rfl, fun y hy => ⟨hf (h2 y hy).1, (h2 y hy).2⟩, h3⟩
theorem RowV.of {ρ : Place} {o es n : Nat} {v : Value} {p : Pl} (hp : ρ o = some p) (h : RepRow ρ w o es 0 n v) : RowV w p es n v := by
  rcases h with ⟨h1, h2⟩ | ⟨b, off, x, cap, h1, h2, h3, h4⟩
  · rw [hp] at h1; cases h1; exact .inl ⟨rfl, h2⟩
  · rw [hp] at h1
    cases h1
    exact .inr ⟨b, off, x, cap, rfl, h2, fun h => by rw [h3 h]; omega, h4⟩

theorem tkMs_ok (hW : WRel K E U w) : ∀ (ms : List M1) {cs ds ds' : List C} {x : HT ms} {ss : List (Option Nat)} {us rest : List Value}, tkMs E.H ms cs ds = some (x, ds', ss) → RepCs E w cs us → RepCs E w ds (dcM ms us ++ rest) →
    ∃ pls, SemMs E.Z w ms x us pls ∧ SrcPl E.ρ ss pls ∧ RepCs E w ds' rest ∧ ∀ o, some o ∈ ss → ∃ fz t xs, E.H o = some (.row fz t xs)
  | [], [], ds, ds', x, ss, us, rest, h, hc, hd => by
    simp only [tkMs, Option.some.injEq, Prod.mk.injEq] at h
    obtain ⟨_, rfl, rfl⟩ := h
    obtain rfl : us = [] := by simpa using hc.1
    exact ⟨[], ⟨rfl, rfl⟩, SrcPl.nil _, hd, fun o ho => by simp at ho⟩
  | [], _ :: _, ds, ds', x, ss, us, rest, h, hc, hd => by simp [tkMs] at h
  | .dat t :: ms, cs, ds, ds', x, ss, us, rest, h, hc, hd => by
    simp only [tkMs] at h
    split at h
    · rename_i hle
      have hle := Nat.le_of_ble_eq_true hle
      split at h
      · rename_i x1 hx1
        split at h
        · rename_i r d1 s1 hr
          simp only [Option.some.injEq, Prod.mk.injEq] at h
          obtain ⟨rfl, rfl, rfl⟩ := h
          have hul : t.size ≤ us.length := by rw [hc.1]; exact hle
          simp only [dcM, List.append_assoc] at hd
          have e1 : (us.take t.size).length = t.size := by simp; omega
          have h1 := hd.take t.size
          rw [List.take_left' e1] at h1
          have h2 := hd.drop t.size
          rw [List.drop_left' e1] at h2
          obtain ⟨pls, h3, h4, h5, h6⟩ := tkMs_ok hW ms hr (hc.drop _) h2
          exact ⟨pls, ⟨us.take t.size, us.drop t.size, [], pls, (List.take_append_drop _ _).symm, rfl, ⟨dec_rep t hx1 h1, rfl⟩, h3⟩, h4, h5, h6⟩
        · cases h
      · cases h
    · cases h
  | .own fz t :: ms, c :: cs, ds, ds', x, ss, us, rest, h, hc, hd => by
    obtain ⟨v, us', rfl, hv, hc'⟩ := hc.uncons
    simp only [dcM, List.drop_one, List.tail_cons] at hd
    simp only [tkMs] at h
    split at h
    · rename_i o es
      split at h
      · rename_i fz' t' xs hH
        split at h
        · rename_i ht
          subst ht
          split at h
          · rename_i hf
            split at h
            · rename_i hes
              obtain rfl := Nat.eq_of_beq_eq_true hes
              split at h
              · rename_i r d1 s1 hr
                simp only [Option.some.injEq, Prod.mk.injEq] at h
                obtain ⟨rfl, rfl, rfl⟩ := h
                obtain ⟨pls, h3, h4, h5, h6⟩ := tkMs_ok hW ms hr hc' hd
                obtain ⟨n, hn1, hn2⟩ := hv
                have := hn2 _ _ _ hH
                subst this
                obtain ⟨p, hp⟩ := hn1.placed
                refine ⟨p :: pls, ⟨[v], us', [p], pls, rfl, rfl, ⟨p, v, rfl, rfl, RowV.of hp hn1, RowO.of hW hH hf hp⟩, h3⟩, SrcPl.append (SrcPl.one (s := some o) hp) h4, h5, fun o' ho' => ?_⟩
                rcases List.mem_cons.1 ho' with ho' | ho'
                · cases ho'; exact ⟨_, _, _, hH⟩
                · exact h6 o' ho'
              · cases h
            · cases h
          · cases h
        · cases h
      · cases h
    · split at h
      · rename_i r d1 s1 hr
        simp only [Option.some.injEq, Prod.mk.injEq] at h
        obtain ⟨rfl, rfl, rfl⟩ := h
        obtain ⟨pls, h3, h4, h5, h6⟩ := tkMs_ok hW ms hr hc' hd
        obtain ⟨rfl, _⟩ := hv
        refine ⟨.virt :: pls, ⟨_, us', [.virt], pls, rfl, rfl, ⟨.virt, _, rfl, rfl, .inl ⟨rfl, rfl, rfl⟩, .inl ⟨rfl, rfl⟩⟩, h3⟩, SrcPl.append (SrcPl.one (s := none) rfl) h4, h5, fun o' ho' => ?_⟩
        rcases List.mem_cons.1 ho' with ho' | ho'
        · cases ho'
        · exact h6 o' ho'
      · cases h
    · cases h
  | .own fz t :: ms, [], ds, ds', x, ss, us, rest, h, hc, hd => by simp [tkMs] at h

theorem tkP_ok (hW : WRel K E U w) {H0 : Hp} {p : PM} {f : FV} {ds ds' : List C} {x : p.T} {ss : List (Option Nat)} {v : Value} {cs : List C} {us rest : List Value} (h : tkP H0 E.H p f ds = some (x, ds', ss))
    (h0 : cellsP H0 p f = some cs) (hc : RepCs E w cs us) (hv : ValP E w p f v us) (hd : RepCs E w ds (dcM p.ms us ++ rest)) :
    ∃ pls, SemP E.Z w p x v pls ∧ SrcPl E.ρ ss pls ∧ RepCs E w ds' rest ∧ ∀ o, some o ∈ ss → ∃ ob, E.H o = some ob := by
  cases p with
  | c m =>
    simp only [tkP, h0] at h
    split at h
    · rename_i x1 d1 s1 hr
      simp only [Option.some.injEq, Prod.mk.injEq] at h
      obtain ⟨rfl, rfl, rfl⟩ := h
      obtain rfl : us = [v] := hv
      obtain ⟨pls, h1, h2, h3, h4⟩ := tkMs_ok hW [m] hr hc hd
      obtain ⟨v1, v2, p1, p2, e1, e2, h5, h6, h7⟩ := h1
      subst h6; subst h7
      simp only [List.append_nil] at e1 e2
      subst e1; subst e2
      exact ⟨_, h5, h2, h3, fun o ho => let ⟨_, _, _, h⟩ := h4 o ho; ⟨_, h⟩⟩
    · cases h
  | agg ms =>
    simp only [tkP, h0] at h
    obtain rfl : v = .agg us.toArray := hv
    obtain ⟨pls, h1, h2, h3, h4⟩ := tkMs_ok hW ms h hc hd
    exact ⟨pls, ⟨us, rfl, h1⟩, h2, h3, fun o ho => let ⟨_, _, _, h⟩ := h4 o ho; ⟨_, h⟩⟩
  | ptr ms =>
    obtain ⟨o, b, off, cs', rfl, hH, hp, rfl, hbox⟩ := hv
    simp only [tkP, h0] at h
    split at h
    · rename_i x1 d1 s1 hr
      simp only [Option.some.injEq, Prod.mk.injEq] at h
      obtain ⟨rfl, rfl, rfl⟩ := h
      obtain ⟨pls, h1, h2, h3, h4⟩ := tkMs_ok hW ms hr hc hd
      refine ⟨.at b off :: pls, ⟨b, off, us, pls, rfl, rfl, hbox, h1⟩, SrcPl.append (SrcPl.one (s := some o) hp) h2, h3, fun o' ho' => ?_⟩
      rcases List.mem_cons.1 ho' with ho' | ho'
      · cases ho'; exact ⟨_, hH⟩
      · obtain ⟨_, _, _, h⟩ := h4 o' ho'; exact ⟨_, h⟩
    · cases h

theorem tkPs_ok (hW : WRel K E U w) {H0 : Hp} (hH0 : ∀ p f cs, cellsP E.H p f = some cs → cellsP H0 p f = some cs) : ∀ (ps : List PM) (fs : List FV) {ds : List C} {x : HP ps} {ss : List (Option Nat)} {vals dvs : List Value}, tkPs H0 E.H ps fs ds = some (x, ss) →
    VPs E w ps fs vals dvs → RepCs E w ds dvs → ∃ pls, SemPs E.Z w ps x vals pls ∧ SrcPl E.ρ ss pls ∧ ∀ o, some o ∈ ss → ∃ ob, E.H o = some ob
  | [], [], ds, x, ss, vals, dvs, h, hv, hd => by
    cases ds with
    | nil =>
      simp only [tkPs, Option.some.injEq, Prod.mk.injEq] at h
      obtain ⟨_, rfl⟩ := h
      obtain ⟨rfl, rfl⟩ := hv
      exact ⟨[], ⟨rfl, rfl⟩, SrcPl.nil _, fun o ho => by simp at ho⟩
    | cons _ _ => simp [tkPs] at h
  | p :: ps, f :: fs, ds, x, ss, vals, dvs, h, hv, hd => by
    simp only [tkPs] at h
    split at h
    · rename_i x1 d1 s1 h1
      split at h
      · rename_i r s2 h2
        simp only [Option.some.injEq, Prod.mk.injEq] at h
        obtain ⟨rfl, rfl⟩ := h
        obtain ⟨v, vals', cs, us, d', rfl, g1, g2, g3, rfl, g4⟩ := hv
        obtain ⟨p1, k1, k2, k3, k4⟩ := tkP_ok hW h1 (hH0 _ _ _ g1) g2 g3 hd
        obtain ⟨p2, l1, l2, l3⟩ := tkPs_ok hW hH0 ps fs h2 g4 k3
        refine ⟨p1 ++ p2, ⟨v, vals', p1, p2, rfl, rfl, k1, l1⟩, k2.append l2, fun o ho => ?_⟩
        rcases List.mem_append.1 ho with ho | ho
        · exact k4 o ho
        · exact l3 o ho
      · cases h
    · cases h
  | [], _ :: _, ds, x, ss, vals, dvs, h, hv, hd => by simp [tkPs] at h
  | _ :: _, [], ds, x, ss, vals, dvs, h, hv, hd => by simp [tkPs] at h

theorem take_ok (hW : WRel K E U w) {ps : List PM} {fs : List FV} {tk : Taken ps} {vals : List Value} (h : take E.H ps fs = some tk) (hv : RepFVs E w fs vals) :
    ∃ E1 pls, E1.ρ = E.ρ ∧ E1.H = putsH tk.puts E.H ∧ Le E w E1 w ∧ WRel K E1 U w ∧ SemPs E1.Z w ps tk.x vals pls ∧ SrcPl E1.ρ tk.srcs pls ∧ (∀ o, some o ∈ tk.srcs → ∃ ob, E1.H o = some ob) ∧ nodupS tk.srcs = true ∧
      (∀ x ob, lookL tk.puts x = some ob → ∃ fz t xs, E.H x = some (.row fz t xs) ∧ ob = .row true t xs) := by
  unfold take at h
  split at h
  · rename_i dcs hdc
    split at h
    · rename_i ds puts hf
      split at h
      · rename_i x ss htk
        split at h
        · rename_i hnd
          cases h
          obtain ⟨dvs, h1, h2⟩ := dcPs_ok hW ps fs hdc hv
          obtain ⟨E1, e1, e2, hl, hW1, hputs, _, _, hrep⟩ := frz_ok hW hf
          have hbox : ∀ o cs, E.H o = some (.box cs) → E1.H o = some (.box cs) := fun o cs ho => by
            rw [e2]
            unfold putsH
            cases hlk : lookL puts o with
            | none => exact ho
            | some ob =>
              obtain ⟨fz, t, xs, h3, _⟩ := hputs o ob hlk
              rw [ho] at h3
              cases h3
          have hbox' : ∀ o cs, E1.H o = some (.box cs) → E.H o = some (.box cs) := fun o cs ho => by
            rw [e2] at ho
            unfold putsH at ho
            cases hlk : lookL puts o with
            | none => rw [hlk] at ho; exact ho
            | some ob =>
              obtain ⟨fz, t, xs, h3, h4⟩ := hputs o ob hlk
              rw [hlk] at ho
              simp only [Option.some.injEq] at ho
              rw [h4] at ho
              cases ho
          have hV1 := VPs.mono hl hW1 e1 hbox ps fs h1
          rw [← e2] at htk
          obtain ⟨pls, h3, h4, h5⟩ := tkPs_ok hW1 (H0 := E.H) (fun p f cs hc => by
            unfold cellsP at hc ⊢
            split at hc
            · exact hc
            · exact hc
            · split at hc
              · rename_i hH
                rw [hbox' _ _ hH]
                exact hc
              · cases hc
            · cases hc) ps fs htk hV1 (hrep _ h2)
          exact ⟨E1, pls, e1, e2, hl, hW1, h3, h4, h5, hnd, hputs⟩
        · cases h
      · cases h
    · cases h
  · cases h

theorem memN_iff : ∀ {n : Nat} {ss : List (Option Nat)}, memN n ss = true ↔ some n ∈ ss
  | n, [] => by simp [memN]
  | n, some m :: r => by
    simp only [memN, Bool.or_eq_true, List.mem_cons, Option.some.injEq, memN_iff (ss := r)]
    constructor
    · rintro (h | h)
      · exact .inl (Nat.eq_of_beq_eq_true h)
      · exact .inr h
    · rintro (rfl | h)
      · exact .inl (by simp)
      · exact .inr h
  | n, none :: r => by simp [memN, memN_iff (ss := r)]
theorem nodupS_idx : ∀ {ss : List (Option Nat)}, nodupS ss = true → ∀ (i j : Nat) (o : Nat), ss[i]? = some (some o) → ss[j]? = some (some o) → i = j
  | [], _, i, j, o, h, _ => by simp at h
  | none :: r, hn, i, j, o, hi, hj => by
    cases i with
    | zero => simp at hi
    | succ i =>
      cases j with
      | zero => simp at hj
      | succ j =>
        simp only [List.getElem?_cons_succ] at hi hj
        rw [nodupS_idx (ss := r) hn i j o hi hj]
  | some n :: r, hn, i, j, o, hi, hj => by
    simp only [nodupS, Bool.and_eq_true, Bool.not_eq_true'] at hn
    have hnot : ∀ k, r[k]? ≠ some (some n) := fun k hk => by
      have := memN_iff.2 (List.mem_of_getElem? hk)
      rw [hn.1] at this
      cases this
    cases i with
    | zero =>
      simp at hi
      subst hi
      cases j with
      | zero => rfl
      | succ j => simp only [List.getElem?_cons_succ] at hj; exact absurd hj (hnot j)
    | succ i =>
      simp only [List.getElem?_cons_succ] at hi
      cases j with
      | zero =>
        simp at hj
        subst hj
        exact absurd hi (hnot i)
      | succ j =>
        simp only [List.getElem?_cons_succ] at hj
        rw [nodupS_idx (ss := r) hn.2 i j o hi hj]

/-- Places in blocks of which no two are one, none of the lowest. -/
structure PlOk (G : Nat) (w : World) (pls : List Pl) : Prop where
  nodup : ∀ (i j : Nat) (b off off' : Nat), pls[i]? = some (.at b off) → pls[j]? = some (.at b off') → i = j
  ge : ∀ (i : Nat) (b off : Nat), pls[i]? = some (.at b off) → G ≤ b ∧ b < w.heap.size

theorem SrcPl.ok (hW : WRel K E U w) {ss : List (Option Nat)} {pls : List Pl} (h : SrcPl E.ρ ss pls) (hobj : ∀ o, some o ∈ ss → ∃ ob, E.H o = some ob) (hn : nodupS ss = true) : PlOk K.G w pls := by
  have get : ∀ (i : Nat) (b off : Nat), pls[i]? = some (.at b off) → ∃ o ob, ss[i]? = some (some o) ∧ E.ρ o = some (.at b off) ∧ E.H o = some ob := fun i b off hi => by
    have hlt : i < ss.length := by rw [h.len]; exact (List.getElem?_eq_some_iff.1 hi).1
    have hs := List.getElem?_eq_getElem hlt
    have := h.at_ i _ _ hs hi
    cases hq : ss[i] with
    | none => rw [hq] at this; cases this
    | some o =>
      rw [hq] at this hs
      obtain ⟨ob, hob⟩ := hobj o (List.mem_of_getElem? hs)
      exact ⟨o, ob, hs, this, hob⟩
  constructor
  · intro i j b off off' hi hj
    obtain ⟨o, ob, h1, h2, h3⟩ := get i b off hi
    obtain ⟨o', ob', h1', h2', h3'⟩ := get j b off' hj
    have := hW.inj o o' ob ob' b off off' h3 h3' h2 h2'
    subst this
    exact nodupS_idx hn i j o h1 h1'
  · intro i b off hi
    obtain ⟨o, ob, h1, h2, h3⟩ := get i b off hi
    exact ⟨(hW.mine o ob b off h3 h2).2, hW.lt h3 h2⟩
end

/-- The blocks of places. -/
def inPl (pls : List Pl) (b : Nat) : Prop := ∃ off, .at b off ∈ pls

theorem lookL_mem {α : Type} : ∀ {l : List (Nat × α)} {k : Nat} {x : α}, lookL l k = some x → (k, x) ∈ l
  | [], k, x, h => by simp [lookL] at h
  | (a, y) :: r, k, x, h => by
    rw [lookL_cons] at h
    split at h
    · rename_i e; subst e; cases h; exact List.mem_cons_self
    · exact List.mem_cons_of_mem _ (lookL_mem h)
theorem mem_lookL {α : Type} : ∀ {l : List (Nat × α)} {k : Nat} {x : α}, (l.map (·.1)).Nodup → (k, x) ∈ l → lookL l k = some x
  | [], k, x, _, h => by simp at h
  | (a, y) :: r, k, x, hn, h => by
    simp only [List.map_cons, List.nodup_cons] at hn
    rw [lookL_cons]
    rcases List.mem_cons.1 h with h1 | h1
    · cases h1; simp
    · have : k ≠ a := by rintro rfl; exact hn.1 (List.mem_map.2 ⟨(_, x), h1, rfl⟩)
      rw [if_neg this]
      exact mem_lookL hn.2 h1

theorem plMs_nums {Z : ZS} {w : World} : ∀ {ms : List M1} {k : Nat} {x : HT ms} {vs : List Value} {pls : List Pl}, SemMs Z w ms x vs pls → (plMs k ms x).2.2 = k + pls.length ∧ (plMs k ms x).2.1.map (·.1) = List.range' k pls.length
  | [], k, x, vs, pls, h => by obtain ⟨rfl, rfl⟩ := h; exact ⟨rfl, rfl⟩
  | m :: ms, k, x, vs, pls, h => by
    obtain ⟨v1, v2, p1, p2, rfl, rfl, h1, h2⟩ := h
    have a : (plM k m x.1).2.2 = k + p1.length ∧ (plM k m x.1).2.1.map (·.1) = List.range' k p1.length := by
      cases m with
      | dat t => obtain ⟨_, rfl⟩ := h1; exact ⟨rfl, rfl⟩
      | own fz t => obtain ⟨p, v, _, rfl, _⟩ := h1; exact ⟨by simp [plM], by simp [plM]⟩
    obtain ⟨b1, b2⟩ := plMs_nums (k := (plM k m x.1).2.2) h2
    refine ⟨?_, ?_⟩
    · show (plMs (plM k m x.1).2.2 ms x.2).2.2 = _
      rw [b1, a.1, List.length_append]; omega
    · show ((plM k m x.1).2.1 ++ (plMs (plM k m x.1).2.2 ms x.2).2.1).map (·.1) = _
      rw [List.map_append, a.2, b2, a.1, range'_app, List.length_append]
theorem plPs_nums {Z : ZS} {w : World} : ∀ {ps : List PM} {k : Nat} {x : HP ps} {vs : List Value} {pls : List Pl}, SemPs Z w ps x vs pls → (plPs k ps x).2.2 = k + pls.length ∧ (plPs k ps x).2.1.map (·.1) = List.range' k pls.length
  | [], k, x, vs, pls, h => by obtain ⟨rfl, rfl⟩ := h; exact ⟨rfl, rfl⟩
  | p :: ps, k, x, vs, pls, h => by
    obtain ⟨v, vs', p1, p2, rfl, rfl, h1, h2⟩ := h
    have a : (plP k p x.1).2.2 = k + p1.length ∧ (plP k p x.1).2.1.map (·.1) = List.range' k p1.length := by
      cases p with
      | c m =>
        cases m with
        | dat t => obtain ⟨_, rfl⟩ := h1; exact ⟨rfl, rfl⟩
        | own fz t => obtain ⟨p, v, _, rfl, _⟩ := h1; exact ⟨by simp [plP, plM], by simp [plP, plM]⟩
      | agg ms => obtain ⟨vs, rfl, h1⟩ := h1; exact plMs_nums h1
      | ptr ms =>
        obtain ⟨b, off, us, pls', rfl, rfl, hbox, h1⟩ := h1
        obtain ⟨c1, c2⟩ := plMs_nums (k := k + 1) h1
        refine ⟨?_, ?_⟩
        · show (plMs (k + 1) ms x.1).2.2 = _
          rw [c1, List.length_cons]; omega
        · show (k :: (plMs (k + 1) ms x.1).2.1.map (·.1)) = _
          rw [c2, List.length_cons, List.range'_succ]
    obtain ⟨b1, b2⟩ := plPs_nums (k := (plP k p x.1).2.2) h2
    refine ⟨?_, ?_⟩
    · show (plPs (plP k p x.1).2.2 ps x.2).2.2 = _
      rw [b1, a.1, List.length_append]; omega
    · show ((plP k p x.1).2.1 ++ (plPs (plP k p x.1).2.2 ps x.2).2.1).map (·.1) = _
      rw [List.map_append, a.2, b2, a.1, range'_app, List.length_append]

/-- A world in which values lie, as a frame's world from number k on. -/
theorem WRel.enter {J : World → Prop} {G : Nat} {Z : ZS} {w0 w : World} {M : Nat → Prop} {Z0 : ZS} {pls : List Pl} {ps : List PM} {x : HP ps} {vals : List Value} (k : Nat)
    (hs : SemPs Z w ps x vals pls) (hp : PlOk G w pls) (hm : ∀ b, inPl pls b → w0.heap.size ≤ b ∨ M b) (hzlt : ∀ b y, Z b y → b < w.heap.size) (hzw : ∀ b y, Z b y → Z0 b y ∨ w0.heap.size ≤ b ∨ M b)
    (hz0 : ZLe Z0 Z) (hk : Keeps Z0 w0 w) (hfr : Fr M w0 w) (hg : G ≤ w0.heap.size) (hjs : Stable J G) (hj : J w) :
    ∃ ρ, WRel ⟨J, G, w0, M, Z0⟩ ⟨ρ, Z, lookL (plPs k ps x).2.1⟩ (fun o => k ≤ o ∧ o < k + pls.length) w ∧ RepFVs ⟨ρ, Z, lookL (plPs k ps x).2.1⟩ w (plPs k ps x).1 vals ∧ At ρ k pls ∧ (∀ o p, ρ o = some p → ∃ i, pls[i]? = some p ∧ o = k + i) := by
  let ρ : Place := fun o => if k ≤ o then pls[o - k]? else none
  have hρ : At ρ k pls := fun i p hi => by
    show (if k ≤ k + i then pls[k + i - k]? else none) = some p
    rw [if_pos (by omega), Nat.add_sub_cancel_left]
    exact hi
  have hρ' : ∀ o p, ρ o = some p → ∃ i, pls[i]? = some p ∧ o = k + i := fun o p ho => by
    have ho' : (if k ≤ o then pls[o - k]? else none) = some p := ho
    split at ho'
    · exact ⟨o - k, ho', by omega⟩
    · cases ho'
  -- the numbers in the list of objects
  have hnums : ((plPs k ps x).2.1.map (·.1)).Nodup := by
    rw [(plPs_nums (k := k) hs).2]
    exact List.nodup_range' ..
  have hH : ∀ o ob, (o, ob) ∈ (plPs k ps x).2.1 → lookL (plPs k ps x).2.1 o = some ob := fun o ob h => mem_lookL hnums h
  obtain ⟨h1, h2, h3, h4⟩ := plPs_ok (E := ⟨ρ, Z, lookL (plPs k ps x).2.1⟩) (w := w) (k := k) hs hρ hH
  refine ⟨ρ, ⟨fun o ob ho => (h3 o ob (lookL_mem ho)).1, fun o o' ob ob' b off off' ho ho' hpo hpo' => ?_, fun o ob b off ho hpo => ?_, hzlt, hzw, hz0, hk, fun o p ho => ?_, hfr, hg, hjs, hj⟩, h1, hρ, hρ'⟩
  · obtain ⟨i, hi, rfl⟩ := hρ' _ _ hpo
    obtain ⟨i', hi', rfl⟩ := hρ' _ _ hpo'
    rw [hp.nodup i i' b off off' hi hi']
  · obtain ⟨i, hi, rfl⟩ := hρ' _ _ hpo
    exact ⟨hm b ⟨off, List.mem_of_getElem? hi⟩, (hp.ge i b off hi).1⟩
  · obtain ⟨i, hi, rfl⟩ := hρ' _ _ ho
    exact ⟨Nat.le_add_right _ _, by have := (List.getElem?_eq_some_iff.1 hi).1; omega⟩
end Eng
end Go.Proofs.Ytjhcdndmbilogaa
