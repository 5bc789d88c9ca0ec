/-
  The engine, part 17: what an operation looks at.
  CONDITIONS: those that each theorem names.
-/
import Derived.Test.YtjhcdndmbilogaaE16
namespace Go.Proofs.Ytjhcdndmbilogaa
namespace Eng
open Go Go.RowKit
set_option linter.unusedVariables false
set_option linter.unusedSimpArgs false

theorem frz_congr {H H' : Hp} : ∀ {xc xd : List C} {ps : List (Nat × Obj)}, frz H xc = some (xd, ps) → (∀ o, o ∈ refs xc → H' o = H o) → frz H' xc = some (xd, ps)
  | [], xd, ps, h, hH => h
  | .all o es :: r, xd, ps, h, hH => by
    simp only [frz] at h ⊢
    rw [hH o (by simp [refs])]
    split at h
    · split at h
      · rename_i he
        split at h
        · rename_i ds ps' hr
          rw [frz_congr hr (fun o' ho' => hH o' (by simp [refs, ho']))]
          exact h
        · cases h
      · cases h
    · cases h
  | .part o es lo n :: r, xd, ps, h, hH => by
    simp only [frz] at h ⊢
    rw [hH o (by simp [refs])]
    split at h
    · split at h
      · rename_i he
        split at h
        · rename_i ds ps' hr
          rw [frz_congr hr (fun o' ho' => hH o' (by simp [refs, ho']))]
          exact h
        · cases h
      · cases h
    · cases h
  | .v x :: r, xd, ps, h, hH => by
    simp only [frz] at h ⊢
    split at h
    · rename_i ds ps' hr
      rw [frz_congr hr (fun o' ho' => hH o' (by simpa [refs] using ho'))]
      exact h
    · cases h
  | .e x :: r, xd, ps, h, hH => by
    simp only [frz] at h ⊢
    split at h
    · rename_i ds ps' hr
      rw [frz_congr hr (fun o' ho' => hH o' (by simpa [refs] using ho'))]
      exact h
    · cases h
  | .sl t x :: r, xd, ps, h, hH => by
    simp only [frz] at h ⊢
    split at h
    · rename_i ds ps' hr
      rw [frz_congr hr (fun o' ho' => hH o' (by simpa [refs] using ho'))]
      exact h
    · cases h

theorem rowsOf_congr {H H' : Hp} {x : FV} (hH : ∀ o, o ∈ ids x → H' o = H o) : rowsOf H' x = rowsOf H x := by
  unfold rowsOf
  split
  · rfl
  · rename_i o es; rw [hH o (by simp [ids, refs])]
  · rename_i o es lo n; rw [hH o (by simp [ids, refs])]
  · rfl
theorem newRows_congr {H H' : Hp} {t : Ty} {x : FV} (hH : ∀ o, o ∈ ids x → H' o = H o) : newRows H' t x = newRows H t x := by
  unfold newRows
  split
  · rfl
  · rfl
  · rw [rowsOf_congr hH]
theorem lenOf_congr {H H' : Hp} {k : TK} {x : FV} (hH : ∀ o, o ∈ ids x → H' o = H o) : lenOf H' k x = lenOf H k x := by
  unfold lenOf
  split <;> try rfl
  rename_i o es
  rw [hH o (by simp [ids, refs])]
theorem ownRow_id {H : Hp} {x : FV} {o lo : Nat} {fz : Bool} {sl : Sl} (h : ownRow H x = some (o, fz, lo, sl)) : o ∈ ids x ∧ ∀ o', o' ∈ ids x → o' = o := by
  unfold ownRow at h
  split at h
  · split at h
    · split at h
      · cases h; simp [ids, refs]
      · cases h
    · cases h
  · split at h
    · split at h
      · split at h
        · cases h; simp [ids, refs]
        · cases h
      · cases h
    · cases h
  · cases h
theorem ownRow_congr {H H' : Hp} {x : FV} (hH : ∀ o, o ∈ ids x → H' o = H o) : ownRow H' x = ownRow H x := by
  unfold ownRow
  split
  · rename_i o es; rw [hH o (by simp [ids, refs])]
  · rename_i o es lo n; rw [hH o (by simp [ids, refs])]
  · rfl

/-- What an operation does hangs on its operands and on the objects that it tells of. -/
theorem opEff_congr {P : Program} {ev ev' : Operand → FV} {H H' : Hp} {nid : Nat} {op : Op} {c : Bool} {e : Eff} (h : opEff P ev H nid op = some (c, e))
    (hev : ∀ x ∈ op.operands, ev' x = ev x) (hH : ∀ o, o ∈ e.rd → H' o = H o) : opEff P ev' H' nid op = some (c, e) := by
  cases op with
  | move x => simp only [opEff] at h ⊢; rw [hev x (by simp [Op.operands])]; exact h
  | assign x => simp only [opEff] at h ⊢; rw [hev x (by simp [Op.operands])]; exact h
  | pick x y z =>
    simp only [opEff] at h ⊢
    rw [hev x (by simp [Op.operands]), hev y (by simp [Op.operands]), hev z (by simp [Op.operands])]
    exact h
  | alloc t => exact h
  | box t x => simp only [opEff] at h ⊢; rw [hev x (by simp [Op.operands])]; exact h
  | load t p =>
    simp only [opEff] at h ⊢
    rw [hev p (by simp [Op.operands])]
    split at h
    · cases h
    · rename_i ti hti
      split at h
      · rename_i o j hp
        split at h
        · rename_i cells hHo
          split at h
          · rename_i hc
            cases h
            rw [hH o (by simp), hHo]
            simp only
            rw [if_pos hc]
          · cases h
        · cases h
      · rename_i o es i j hp
        split at h
        · rename_i fz t xs hHo
          split at h
          · rename_i hc
            cases h
            rw [hH o (by simp), hHo]
            simp only
            rw [if_pos hc]
          · cases h
        · cases h
      · exact h
      · cases h
  | store t p x =>
    simp only [opEff] at h ⊢
    rw [hev p (by simp [Op.operands]), hev x (by simp [Op.operands])]
    split at h
    · rename_i ti xc hti hxc
      split at h
      · rename_i o j hp
        split at h
        · rename_i cells hHo
          split at h
          · rename_i hc
            cases h
            rw [hH o (by simp), hHo]
            simp only
            rw [if_pos hc]
          · cases h
        · cases h
      · rename_i o es i j hp
        split at h
        · rename_i t xs hHo
          split at h
          · rename_i hc
            split at h
            · rename_i xd ps hf
              split at h
              · rename_i y hy
                cases h
                rw [hH o (by simp), hHo]
                simp only
                rw [if_pos hc, frz_congr hf (fun o' ho' => hH o' (by simp [ho']))]
                simp only
                rw [hy]
              · cases h
            · cases h
          · cases h
        · cases h
      · cases h
    · cases h
  | build t parts =>
    simp only [opEff] at h ⊢
    have : (parts.toList.map fun p => (p.1, (ev' p.2).cells)) = parts.toList.map fun p => (p.1, (ev p.2).cells) := List.map_congr_left fun p hp => by
      rw [hev p.2 (by simp only [Op.operands]; rw [List.mem_toArray]; exact List.mem_map.2 ⟨p, hp, rfl⟩)]
    rw [this]
    exact h
  | buildSlice t len parts =>
    simp only [opEff] at h ⊢
    have : (parts.toList.map fun p => (ev' p.2).cells) = parts.toList.map fun p => (ev p.2).cells := List.map_congr_left fun p hp => by
      rw [hev p.2 (by simp only [Op.operands]; rw [List.mem_toArray]; exact List.mem_map.2 ⟨p, hp, rfl⟩)]
    rw [this]
    split at h
    · rename_i et te hel
      split at h
      · rename_i ty hty
        split at h
        · rename_i hc
          split at h
          · rename_i cs hcs
            split at h
            · rename_i ds ps hf
              split at h
              · rename_i xs hxs
                cases h
                rw [if_pos hc, frz_congr hf (fun o' ho' => hH o' ho')]
                simp only
                rw [hxs]
              · cases h
            · cases h
          · cases h
        · cases h
      · cases h
    · cases h
  | nilCheck x => simp only [opEff] at h ⊢; rw [hev x (by simp [Op.operands])]; exact h
  | binOp op t x y yt =>
    simp only [opEff] at h ⊢
    rw [hev x (by simp [Op.operands]), hev y (by simp [Op.operands])]
    exact h
  | unOp op t x => simp only [opEff] at h ⊢; rw [hev x (by simp [Op.operands])]; exact h
  | convert s d x => simp only [opEff] at h ⊢; rw [hev x (by simp [Op.operands])]; exact h
  | makeFunc f first caps => cases f with
    | func f =>
      simp only [opEff] at h ⊢
      have : caps.toList.map ev' = caps.toList.map ev := List.map_congr_left fun x hx => hev x (by simp only [Op.operands]; rw [Array.mem_append]; exact .inr (by simpa using hx))
      rw [this]
      exact h
    | _ => simp [opEff] at h
  | extract x i => simp only [opEff] at h ⊢; rw [hev x (by simp [Op.operands])]; exact h
  | field t x i => simp only [opEff] at h ⊢; rw [hev x (by simp [Op.operands])]; exact h
  | fieldAddr t x i => simp only [opEff] at h ⊢; rw [hev x (by simp [Op.operands])]; exact h
  | indexAddr t x i =>
    simp only [opEff] at h ⊢
    rw [hev x (by simp [Op.operands]), hev i (by simp [Op.operands])]
    split at h
    · split at h
      · exact h
      · rename_i o es hx
        split at h
        · rename_i fz t xs hHo
          split at h
          · rename_i hc
            cases h
            rw [hH o (by simp), hHo]
            simp only
            rw [if_pos hc]
          · cases h
        · cases h
      · exact h
      · cases h
    · cases h
  | index t x i =>
    simp only [opEff] at h ⊢
    rw [hev x (by simp [Op.operands]), hev i (by simp [Op.operands])]
    exact h
  | slice t x lo hi mx =>
    cases mx with
    | some mx => simp [opEff] at h
    | none =>
      have hlo : bI ev' lo = bI ev lo := by
        cases lo with
        | none => rfl
        | some z => simp only [bI]; rw [hev z (by simp [Op.operands])]
      have hhi : bI ev' hi = bI ev hi := by
        cases hi with
        | none => rfl
        | some z => simp only [bI]; rw [hev z (by simp [Op.operands])]
      simp only [opEff] at h ⊢
      rw [hlo, hhi, hev x (by simp [Op.operands])]
      split at h
      · split at h
        · exact h
        · exact h
        · rename_i e o es hk hx
          split at h
          · rename_i te fz t xs hte hHo
            split at h
            · rename_i hc
              cases h
              rw [hte, hH o (by simp), hHo]
              simp only
              rw [if_pos hc]
            · cases h
          · cases h
        · exact h
        · cases h
      · cases h
  | makeSlice t l m =>
    simp only [opEff] at h ⊢
    rw [hev l (by simp [Op.operands]), hev m (by simp [Op.operands])]
    exact h
  | call cl =>
    obtain ⟨callee, args, argTypes⟩ := cl
    have harg : ∀ x ∈ args.toList, ev' x = ev x := fun x hx => hev x (by simp only [Op.operands, Call.operands]; rw [Array.mem_append]; exact .inr (by simpa using hx))
    cases callee with
    | builtin b => cases b with
      | len =>
        simp only [opEff] at h ⊢
        split at h
        · rename_i x t hx ht
          rw [harg x (by rw [hx]; simp)]
          split at h
          · split at h
            · rename_i n hn
              cases h
              rw [lenOf_congr (fun o ho => hH o ho), hn]
            · cases h
          · cases h
        · cases h
      | append =>
        simp only [opEff] at h ⊢
        split at h
        · rename_i s x t tx hx ht
          rw [harg s (by rw [hx]; simp), harg x (by rw [hx]; simp)]
          split at h
          · split at h
            · rename_i hc
              rw [if_pos hc]
              split at h
              · split at h
                · split at h
                  · rename_i hsz
                    split at h
                    · rename_i new hnew
                      cases h
                      rw [if_pos hsz, newRows_congr (fun o ho => hH o ho), hnew]
                    · cases h
                  · cases h
                · cases h
              · split at h
                · rename_i o fz lo ty xs hown
                  split at h
                  · rename_i hsz
                    split at h
                    · rename_i new hnew
                      cases h
                      have hid := ownRow_id hown
                      rw [ownRow_congr (fun o' ho' => hH o' (by rw [hid.2 o' ho']; simp)), hown]
                      simp only
                      rw [if_pos hsz, newRows_congr (fun o ho => hH o (by simp [ho])), hnew]
                    · cases h
                  · cases h
                · cases h
            · cases h
          · cases h
        · cases h
      | max =>
        simp only [opEff] at h ⊢
        split at h
        · rename_i x y hx
          rw [harg x (by rw [hx]; simp), harg y (by rw [hx]; simp)]
          exact h
        · cases h
      | min =>
        simp only [opEff] at h ⊢
        split at h
        · rename_i x y hx
          rw [harg x (by rw [hx]; simp), harg y (by rw [hx]; simp)]
          exact h
        · cases h
      | _ => simp [opEff] at h
    | _ => simp [opEff] at h
  | _ => simp [opEff] at h
end Eng
end Go.Proofs.Ytjhcdndmbilogaa
