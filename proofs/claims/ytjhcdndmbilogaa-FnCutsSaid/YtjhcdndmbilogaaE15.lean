/-
  The engine, part 15: a call.
  CONDITIONS: those that each theorem names.
-/
import Derived.Test.YtjhcdndmbilogaaE14
namespace Go.Proofs.Ytjhcdndmbilogaa
namespace Eng
open Go Go.RowKit
set_option linter.unusedVariables false
set_option linter.unusedSimpArgs false

theorem lookL_append {α : Type} : ∀ (a b : List (Nat × α)) (x : Nat), lookL (a ++ b) x = match lookL a x with | some y => some y | none => lookL b x
  | [], b, x => rfl
  | (k, y) :: a, b, x => by
    rw [List.cons_append, lookL_cons, lookL_cons]
    by_cases h : x = k
    · simp [h]
    · simp only [if_neg h]
      exact lookL_append a b x
theorem lookL_filter {α : Type} (p : Nat → Bool) : ∀ (a : List (Nat × α)) (x : Nat), lookL (a.filter fun y => p y.1) x = if p x then lookL a x else none
  | [], x => by simp [lookL]
  | (k, y) :: a, x => by
    have ih := lookL_filter p a x
    by_cases hk : p k = true
    · rw [List.filter_cons_of_pos (by simpa using hk), lookL_cons, lookL_cons, ih]
      by_cases h : x = k
      · subst h; simp [hk]
      · simp [h]
    · rw [List.filter_cons_of_neg (by simpa using hk), ih, lookL_cons]
      by_cases h : x = k
      · subst h; simp [hk]
      · simp [h]
theorem nodup_of_idx {α : Type} : ∀ {l : List α}, (∀ (i j : Nat) (x : α), l[i]? = some x → l[j]? = some x → i = j) → l.Nodup
  | [], _ => List.nodup_nil
  | a :: l, h => by
    rw [List.nodup_cons]
    refine ⟨fun ha => ?_, nodup_of_idx fun i j x hi hj => by have := h (i + 1) (j + 1) x (by simpa using hi) (by simpa using hj); omega⟩
    obtain ⟨i, hi⟩ := List.mem_iff_getElem?.1 ha
    have := h 0 (i + 1) a rfl (by simpa using hi)
    omega
theorem lookL_none {α : Type} : ∀ {l : List (Nat × α)} {k : Nat}, lookL l k = none → k ∉ l.map (·.1)
  | [], k, h => by simp
  | (a, y) :: r, k, h => by
    rw [lookL_cons] at h
    split at h
    · cases h
    · rename_i hne
      simp only [List.map_cons, List.mem_cons, not_or]
      exact ⟨hne, lookL_none h⟩

section
variable {P : Program} {K : Ctx} {E : Env} {U : Nat → Prop} {w : World}

theorem callEff_H {nid : Nat} {ps rs : List PM} {fs : List FV} {tk : Taken ps} {y : HP rs × HP (outsP ps)} {e : Eff} (he : callEff nid ps rs fs tk y = some e) :
    ∃ op n2, outE (plPs nid rs y.1).2.2 ps fs y.2 = some (op, n2) ∧ n2 ≤ nid + 64 ∧ e.val = retFV rs (plPs nid rs y.1).1 ∧
      ∀ H x, e.app H x = match lookL ((plPs nid rs y.1).2.1 ++ op) x with
        | some ob => some ob
        | none => if memN x tk.srcs then none else putsH tk.puts H x := by
  obtain ⟨rfv, robjs, n1, hpl⟩ : ∃ rfv robjs n1, plPs nid rs y.1 = (rfv, robjs, n1) := ⟨_, _, _, rfl⟩
  rw [hpl]
  simp only [callEff, hpl] at he
  split at he
  · rename_i op n2 hop
    split at he
    · rename_i hle
      simp only [Option.some.injEq] at he
      subst he
      refine ⟨op, n2, hop, Nat.le_of_ble_eq_true hle, rfl, fun H x => ?_⟩
      unfold Eff.app
      simp only
      rw [← List.append_assoc, lookL_append]
      cases hl : lookL (robjs ++ op) x with
      | some ob => rfl
      | none =>
        simp only
        rw [lookL_filter (fun k => !memN k tk.srcs)]
        unfold putsH
        cases hm : memN x tk.srcs with
        | true =>
          simp only [Bool.not_true, Bool.false_eq_true, if_false, if_true]
          rw [if_pos (idsS_mem.2 (memN_iff.1 hm))]
        | false =>
          have : x ∉ idsS tk.srcs := fun h => by
            have := memN_iff.2 (idsS_mem.1 h)
            rw [hm] at this; cases this
          simp only [Bool.not_false, if_true, Bool.false_eq_true, if_false]
          rw [if_neg this]
          cases lookL tk.puts x <;> rfl
    · cases he
  · cases he

theorem RepFVs.ret {E : Env} {w : World} {rs : List PM} {fs : List FV} {rvals : List Value} {v : Value} (hr : Ret rs v rvals) (h : RepFVs E w fs rvals) (hl : fs.length = rs.length) : RepFV E w (retFV rs fs) v := by
  unfold retFV
  split
  · rename_i p f
    have hr' : rvals = [v] := hr
    subst hr'
    unfold RepFVs at h
    obtain ⟨u, us, e, h1, h2⟩ := h
    cases e
    exact h1
  · rename_i hne
    have hr' : v = .tuple rvals.toArray := by
      match rs, hr with
      | [], hr => exact hr
      | [p], hr =>
        match fs, hl with
        | [f], _ => exact absurd rfl (hne p f rfl)
      | p :: q :: r, hr => exact hr
    subst hr'
    unfold RepFV
    exact ⟨rvals, rfl, h⟩

theorem plPs_length : ∀ {ps : List PM} {k : Nat} {x : HP ps}, (plPs k ps x).1.length = ps.length
  | [], k, x => rfl
  | p :: ps, k, x => by
    show ((plP k p x.1).1 :: (plPs (plP k p x.1).2.2 ps x.2).1).length = _
    rw [List.length_cons, plPs_length, List.length_cons]

theorem call_out (hW : WRel K E U w) {ps rs : List PM} {fs : List FV} {vals : List Value} (hf : RepFVs E w fs vals) {nid : Nat} (hfresh : ∀ i, i < 64 → ¬ U (nid + i)) {tk : Taken ps} (htk : take E.H ps fs = some tk)
    {f : FuncId} {den : HP ps → Option (HP rs × HP (outsP ps))} (con : Con P K.J K.G f ps rs den) {y : HP rs × HP (outsP ps)} (hy : den tk.x = some y) {e : Eff} (he : callEff nid ps rs fs tk y = some e) :
    Calls P f vals.toArray w fun en w' => ∃ v, en = .returned v ∧ Out K E (e.app E.H) (fun o => U o ∨ (nid ≤ o ∧ o < nid + 64)) w e.val v w' := by
  obtain ⟨E1, pls, e1, e2, hl1, hW1, hsem, hsrc, hobj, hnd, hputs⟩ := take_ok hW htk hf
  have hpok0 : PlOk K.G w pls := SrcPl.ok hW1 hsrc hobj hnd
  refine (con.ok _ _ hy w E1.Z vals pls hW1.js hW1.j (Nat.le_trans hW1.g hW1.fr.size) hsem hpok0 hW1.zlt).mono ?_
  rintro en w' ⟨v, rvals, Z', pl1, pl2, rfl, hret, hZ, hK, hzlt, hzw, hfr, hj, hs1, hs2, hpok, hnew⟩
  refine ⟨v, rfl, ?_⟩
  obtain ⟨op, n2, hop, hn2, hval, happ⟩ := callEff_H he
  obtain ⟨rn1, rn2⟩ := plPs_nums (k := nid) hs1
  rw [rn1] at hop
  have hf1 : RepFVs E1 w fs vals := RepFVs.mono hl1 _ _ hf
  obtain ⟨ol, ok2, oid, ofr⟩ := outE_ids (E := E1) (w := w) hop hf1 hs2
  generalize hrv : (plPs nid rs y.1).1 = rfv at hval
  generalize hro : (plPs nid rs y.1).2.1 = robjs at happ rn2
  have hrl : robjs.length = pl1.length := by have := congrArg List.length rn2; simpa using this
  -- the numbers of what is put
  let ids := (robjs ++ op).map (·.1)
  have hidl : ids.length = (pl1 ++ pl2).length := by simp [ids, hrl, ol]
  have hUr : ∀ x p, E1.ρ x = some p → ¬ (nid ≤ x ∧ x < nid + 64) := fun x p hx hr => by
    have := hW1.used x p hx
    have h2 := hfresh (x - nid) (by omega)
    rw [show nid + (x - nid) = x by omega] at h2
    exact h2 this
  have hids : ∀ (i id : Nat), ids[i]? = some id → (i < pl1.length ∧ id = nid + i) ∨ (∃ j, i = pl1.length + j ∧ (op.map (·.1))[j]? = some id) := fun i id hi => by
    simp only [ids, List.map_append] at hi
    by_cases hlt : i < robjs.length
    · rw [List.getElem?_append_left (by simpa using hlt), rn2] at hi
      rw [hrl] at hlt
      simp [hlt] at hi
      exact .inl ⟨hlt, hi.symm⟩
    · rw [List.getElem?_append_right (by simp; omega)] at hi
      exact .inr ⟨i - pl1.length, by omega, by simpa [hrl] using hi⟩
  have hfs : ∀ f ∈ fs, ∀ id, f = .pb id 0 → ∃ p, E1.ρ id = some p := fun f hf id e => by
    subst e
    obtain ⟨i, hi⟩ := List.mem_iff_getElem?.1 hf
    obtain ⟨g1, g2⟩ := RepFVs.get hf1
    have hlt : i < vals.length := by rw [g1]; exact (List.getElem?_eq_some_iff.1 hi).1
    have := g2 i _ _ hi (List.getElem?_eq_getElem hlt)
    unfold RepFV at this
    obtain ⟨b, off, h, _⟩ := this
    exact ⟨_, h⟩
  have hnod : ∀ (i j id : Nat), ids[i]? = some id → ids[j]? = some id → i = j := fun i j id hi hj => by
    have old : ∀ k, (op.map (·.1))[k]? = some id → (nid + pl1.length ≤ id ∧ id < n2 ∧ ∀ f ∈ fs, f ≠ .pb id 0) ∨ (∃ p, E1.ρ id = some p) := fun k hk => by
      rcases oid k id hk with h | ⟨⟨f', hf', e⟩, b, off, cs, g1, _⟩
      · refine .inl ⟨h.1, h.2, fun f hf e => ?_⟩
        obtain ⟨p, hp⟩ := hfs f hf id e
        exact hUr id p hp ⟨by omega, by omega⟩
      · exact .inr ⟨_, g1⟩
    rcases hids i id hi with ⟨h1, rfl⟩ | ⟨i', rfl, h1⟩ <;> rcases hids j _ hj with ⟨h2, h3⟩ | ⟨j', rfl, h2⟩
    · omega
    · rcases old j' h2 with ⟨h3, _⟩ | ⟨p, hp⟩
      · omega
      · exact absurd ⟨by omega, by omega⟩ (hUr _ p hp)
    · rcases old i' h1 with ⟨h4, _⟩ | ⟨p, hp⟩
      · omega
      · exact absurd ⟨by omega, by omega⟩ (hUr _ p hp)
    · rcases old i' h1 with ⟨h3, h4, h5⟩ | ⟨p, hp⟩
      · rw [ofr i' j' id h1 h2 h3 h4 h5]
      · -- the same old box twice: its place stands twice
        have place : ∀ (k : Nat), (op.map (·.1))[k]? = some id → ∃ (b off : Nat), pl2[k]? = some (Pl.at b off) ∧ E1.ρ id = some (.at b off) := fun k hk => by
          rcases oid k id hk with h | ⟨_, b, off, cs, g1, g2, _⟩
          · exact absurd ⟨by omega, by omega⟩ (hUr _ p hp)
          · exact ⟨b, off, g2, g1⟩
        obtain ⟨b, off, p1, p2⟩ := place i' h1
        obtain ⟨b', off', p3, p4⟩ := place j' h2
        rw [p2] at p4
        cases p4
        exact hpok.nodup (pl1.length + i') (pl1.length + j') b off off (by rw [List.getElem?_append_right (by omega)]; simpa using p1) (by rw [List.getElem?_append_right (by omega)]; simpa using p3)
  have hidsN : ids.Nodup := by
    exact nodup_of_idx hnod
  let fresh := ids.zip (pl1 ++ pl2)
  let ρ2 : Place := fun x => match lookL fresh x with | some p => some p | none => E1.ρ x
  have hfm : fresh.map (·.1) = ids := by simp only [fresh]; rw [List.map_fst_zip]; omega
  have hρids : ∀ (i id : Nat) (p : Pl), ids[i]? = some id → (pl1 ++ pl2)[i]? = some p → ρ2 id = some p := fun i id p hi hp => by
    have : (id, p) ∈ fresh := by
      refine List.mem_of_getElem? (i := i) ?_
      simp only [fresh]
      rw [List.getElem?_zip_eq_some]
      exact ⟨hi, hp⟩
    show (match lookL fresh id with | some p => some p | none => E1.ρ id) = some p
    rw [mem_lookL (by rw [hfm]; exact hidsN) this]
  have hρ2 : ∀ x p, ρ2 x = some p → (∃ i, ids[i]? = some x ∧ (pl1 ++ pl2)[i]? = some p) ∨ (x ∉ ids ∧ E1.ρ x = some p) := fun x p hx => by
    have hx' : (match lookL fresh x with | some p => some p | none => E1.ρ x) = some p := hx
    cases hl : lookL fresh x with
    | some q =>
      rw [hl] at hx'
      simp only [Option.some.injEq] at hx'
      subst hx'
      obtain ⟨i, hi⟩ := List.mem_iff_getElem?.1 (lookL_mem hl)
      simp only [fresh] at hi
      rw [List.getElem?_zip_eq_some] at hi
      exact .inl ⟨i, hi⟩
    | none =>
      rw [hl] at hx'
      have := lookL_none hl
      rw [hfm] at this
      exact .inr ⟨this, hx'⟩
  have hext : Ext E1.ρ ρ2 := fun x p hx => by
    show (match lookL fresh x with | some p => some p | none => E1.ρ x) = some p
    cases hl : lookL fresh x with
    | none => exact hx
    | some q =>
      simp only
      obtain ⟨i, hi⟩ := List.mem_iff_getElem?.1 (lookL_mem hl)
      simp only [fresh] at hi
      rw [List.getElem?_zip_eq_some] at hi
      rcases hids i x hi.1 with ⟨h1, rfl⟩ | ⟨j, rfl, h1⟩
      · exact absurd ⟨by omega, by have : pl1.length ≤ n2 - nid := by omega
                                   omega⟩ (hUr _ p hx)
      · rcases oid j x h1 with h | ⟨_, b, off, cs, g1, g2, _⟩
        · exact absurd ⟨by omega, by omega⟩ (hUr _ p hx)
        · have h3 := hi.2
          rw [List.getElem?_append_right (by omega)] at h3
          simp only [Nat.add_sub_cancel_left] at h3
          rw [g2] at h3
          rw [← h3, ← hx, g1]
  -- the objects behind the call
  have hH2 : ∀ x, e.app E.H x = match lookL (robjs ++ op) x with | some ob => some ob | none => if memN x tk.srcs then none else E1.H x := fun x => by
    rw [happ E.H x, e2]
  have hHnew : ∀ x ob, (x, ob) ∈ robjs ++ op → e.app E.H x = some ob := fun x ob h => by
    rw [hH2, mem_lookL hidsN h]
  have hHcase : ∀ x ob, e.app E.H x = some ob → ((x, ob) ∈ robjs ++ op) ∨ (x ∉ ids ∧ memN x tk.srcs = false ∧ E1.H x = some ob) := fun x ob h => by
    rw [hH2] at h
    cases hl : lookL (robjs ++ op) x with
    | some ob' =>
      rw [hl] at h
      simp only [Option.some.injEq] at h
      subst h
      exact .inl (lookL_mem hl)
    | none =>
      rw [hl] at h
      simp only at h
      split at h
      · cases h
      · rename_i hm
        exact .inr ⟨lookL_none hl, by simpa using hm, h⟩
  have hle : Le E1 w ⟨ρ2, Z', e.app E.H⟩ w' := ⟨hext, hZ, hK, hfr.cells, fun o p fz t xs ho hh => by
    rcases hHcase o _ hh with h | ⟨_, _, h⟩
    · exfalso
      obtain ⟨i, hi⟩ := List.mem_iff_getElem?.1 h
      have hii : ids[i]? = some o := by simp only [ids, List.getElem?_map, hi]; rfl
      rcases hids i o hii with ⟨h1, rfl⟩ | ⟨j, rfl, h1⟩
      · exact hUr _ p ho ⟨by omega, by omega⟩
      · rcases oid j o h1 with h2 | ⟨_, b, off, cs, g1, g2, g3⟩
        · exact hUr _ p ho ⟨by omega, by omega⟩
        · rw [List.getElem?_append_right (by omega)] at hi
          simp only [hrl, Nat.add_sub_cancel_left] at hi
          rw [g3] at hi
          cases hi
    · exact ⟨_, _, _, h, rfl⟩⟩
  -- blocks that the call may not have touched
  have hout : ∀ x ob b off, memN x tk.srcs = false → E1.H x = some ob → E1.ρ x = some (.at b off) → ¬ inPl pls b := fun x ob b off hm hx hp hin => by
    obtain ⟨off', hoff⟩ := hin
    obtain ⟨i, hi⟩ := List.mem_iff_getElem?.1 hoff
    have hlt : i < tk.srcs.length := by rw [hsrc.len]; exact (List.getElem?_eq_some_iff.1 hi).1
    have hs := List.getElem?_eq_getElem hlt
    have hat := hsrc.at_ i _ _ hs hi
    cases hq : tk.srcs[i] with
    | none => rw [hq] at hat; cases hat
    | some o =>
      rw [hq] at hat hs
      obtain ⟨ob', hob'⟩ := hobj o (List.mem_of_getElem? hs)
      have := hW1.inj x o ob ob' b off off' hx hob' hp hat
      subst this
      have := memN_iff.2 (List.mem_of_getElem? hs)
      rw [hm] at this
      cases this
  have hinW : ∀ b, inPl pls b → (K.w0.heap.size ≤ b ∨ K.M b) ∧ K.G ≤ b ∧ b < w.heap.size := fun b hin => by
    obtain ⟨off', hoff⟩ := hin
    obtain ⟨i, hi⟩ := List.mem_iff_getElem?.1 hoff
    have hlt : i < tk.srcs.length := by rw [hsrc.len]; exact (List.getElem?_eq_some_iff.1 hi).1
    have hs := List.getElem?_eq_getElem hlt
    have hat := hsrc.at_ i _ _ hs hi
    cases hq : tk.srcs[i] with
    | none => rw [hq] at hat; cases hat
    | some o =>
      rw [hq] at hat hs
      obtain ⟨ob', hob'⟩ := hobj o (List.mem_of_getElem? hs)
      exact ⟨(hW1.mine o ob' b off' hob' hat).1, (hW1.mine o ob' b off' hob' hat).2, hW1.lt hob' hat⟩
  have hnewB : ∀ (i b off : Nat), (pl1 ++ pl2)[i]? = some (.at b off) → (K.w0.heap.size ≤ b ∨ K.M b) ∧ K.G ≤ b ∧ ∀ x ob off', memN x tk.srcs = false → E1.H x = some ob → E1.ρ x ≠ some (.at b off') := fun i b off hi => by
    rcases hnew b ⟨off, List.mem_of_getElem? hi⟩ with h | h
    · exact ⟨.inl (Nat.le_trans hW1.fr.size h), (hpok.ge i b off hi).1, fun x ob off' hm hx hp => by have := hW1.lt hx hp; omega⟩
    · exact ⟨(hinW b h).1, (hinW b h).2.1, fun x ob off' hm hx hp => hout x ob b off' hm hx hp h⟩
  have hwhere : ∀ x ob p, e.app E.H x = some ob → ρ2 x = some p → (∃ i, ids[i]? = some x ∧ (pl1 ++ pl2)[i]? = some p) ∨ (memN x tk.srcs = false ∧ E1.H x = some ob ∧ E1.ρ x = some p) := fun x ob p hx hp => by
    rcases hρ2 x p hp with h | ⟨h1, h2⟩
    · exact .inl h
    · rcases hHcase x ob hx with h | ⟨_, h3, h4⟩
      · exact absurd (List.mem_map.2 ⟨_, h, rfl⟩) h1
      · exact .inr ⟨h3, h4, h2⟩
  have hf2 : RepFVs ⟨ρ2, Z', e.app E.H⟩ w' fs vals := RepFVs.mono hle _ _ hf1
  have hrs := plPs_ok (E := ⟨ρ2, Z', e.app E.H⟩) (w := w') (k := nid) hs1 (fun i p hi => hρids i _ p (by
      simp only [ids, List.map_append]
      have hlt := (List.getElem?_eq_some_iff.1 hi).1
      rw [List.getElem?_append_left (by simp; omega), rn2]
      simp [hlt]) (by rw [List.getElem?_append_left (List.getElem?_eq_some_iff.1 hi).1]; exact hi))
    (by rw [hro]; exact fun o ob ho => hHnew o ob (List.mem_append_left _ ho))
  rw [hro, hrv] at hrs
  have hop2 := outE_ok (E := ⟨ρ2, Z', e.app E.H⟩) (w := w') hop hf2 hs2 (fun i id p hi hp => hρids (pl1.length + i) id p (by
      simp only [ids, List.map_append]
      rw [List.getElem?_append_right (by simp; omega)]
      simpa [hrl] using hi) (by rw [List.getElem?_append_right (by omega)]; simpa using hp))
    (fun o ob ho => hHnew o ob (List.mem_append_right _ ho))
  refine ⟨⟨ρ2, Z', e.app E.H⟩, rfl, hl1.trans hle, hW1.upd hle (fun x ob hx => ?_) (fun x x' ob ob' b off off' hx hx' hp hp' => ?_) (fun x ob b off hx hp => ?_) hzlt (fun b y hb => ?_) (fun x p hp => ?_) ?_ (fun b hb => ?_), ?_⟩
  · rcases hHcase x ob hx with h | ⟨_, h3, h4⟩
    · rcases List.mem_append.1 h with h | h
      · exact .inr (hrs.2.2.1 x ob h).1
      · exact .inr (hop2 x ob h)
    · refine .inl ⟨h4, fun b off hp => ?_⟩
      have hn := hout x ob b off h3 h4 hp
      have hlt := hW1.lt h4 hp
      refine ⟨hfr.block b hlt hn, fun y hy => ?_⟩
      rcases hzw b y hy with h | h | h
      · exact h
      · omega
      · exact absurd h hn
  · rcases hwhere x ob _ hx hp with ⟨i, h1, h2⟩ | ⟨h1, h2, h3⟩ <;> rcases hwhere x' ob' _ hx' hp' with ⟨j, g1, g2⟩ | ⟨g1, g2, g3⟩
    · have := hpok.nodup i j b off off' h2 g2
      subst this
      rw [h1] at g1
      exact Option.some.inj g1
    · exact absurd g3 ((hnewB i b off h2).2.2 x' ob' off' g1 g2)
    · exact absurd h3 ((hnewB j b off' g2).2.2 x ob off h1 h2)
    · exact hW1.inj x x' ob ob' b off off' h2 g2 h3 g3
  · rcases hwhere x ob _ hx hp with ⟨i, h1, h2⟩ | ⟨h1, h2, h3⟩
    · exact ⟨(hnewB i b off h2).1, (hnewB i b off h2).2.1⟩
    · exact hW1.mine x ob b off h2 h3
  · rcases hzw b y hb with h | h | h
    · exact .inl h
    · exact .inr (.inl (Nat.le_trans hW1.fr.size h))
    · exact .inr (hinW b h).1
  · rcases hρ2 x p hp with ⟨i, h1, h2⟩ | ⟨_, h⟩
    · rcases hids i x h1 with ⟨h3, rfl⟩ | ⟨j, rfl, h3⟩
      · exact .inr ⟨by omega, by omega⟩
      · rcases oid j x h3 with h4 | ⟨_, b, off, cs, g1, _⟩
        · exact .inr ⟨by omega, by omega⟩
        · exact .inl (hW1.used x _ g1)
    · exact .inl (hW1.used x p h)
  · exact ⟨hfr.os.trans hW1.fr.os, hfr.tape.trans hW1.fr.tape, hfr.output.trans hW1.fr.output, Nat.le_trans hW1.fr.size hfr.size, fun k hk hM => (hfr.block k (Nat.lt_of_lt_of_le hk hW1.fr.size) (fun h => by
      rcases (hinW k h).1 with h | h
      · omega
      · exact hM h)).trans (hW1.fr.block k hk hM), hW1.fr.cells.trans hfr.cells⟩
  · exact hfr.block b (Nat.lt_of_lt_of_le hb (Nat.le_trans hW1.g hW1.fr.size)) (fun h => by have := (hinW b h).2.1; omega)
  · rw [hval]
    exact hrs.1.ret hret (by rw [← hrv]; exact plPs_length)
end
end Eng
end Go.Proofs.Ytjhcdndmbilogaa
