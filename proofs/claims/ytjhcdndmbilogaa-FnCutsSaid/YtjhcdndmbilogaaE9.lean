/-
  The engine, part 9: what is appended.
  CONDITIONS: those that each theorem names.
-/
import Derived.Test.YtjhcdndmbilogaaE8
import Derived.Deep.Upon
namespace Go.Proofs.Ytjhcdndmbilogaa
namespace Eng
open Go Go.RowKit
set_option linter.unusedVariables false
set_option linter.unusedSimpArgs false

def flat (val : Nat → Nat → Value) (m es : Nat) : List Value := (List.range (m * es)).map fun k => val (k / es) (k % es)
theorem flat_length (val : Nat → Nat → Value) (m es : Nat) : (flat val m es).length = m * es := by simp [flat]
theorem idx_lt {i m j es : Nat} (hi : i < m) (hj : j < es) : i * es + j < m * es := by
  have : (i + 1) * es ≤ m * es := Nat.mul_le_mul_right _ hi
  rw [Nat.add_mul, Nat.one_mul] at this
  omega
theorem idx_div {i j es : Nat} (hj : j < es) : (i * es + j) / es = i ∧ (i * es + j) % es = j := by
  have hpos : 0 < es := by omega
  constructor
  · rw [Nat.add_comm, Nat.add_mul_div_right _ _ hpos, Nat.div_eq_of_lt hj, Nat.zero_add]
  · rw [Nat.add_comm, Nat.add_mul_mod_self_right, Nat.mod_eq_of_lt hj]
theorem flat_at {val : Nat → Nat → Value} {m es i j : Nat} (hi : i < m) (hj : j < es) : (flat val m es)[i * es + j]? = some (val i j) := by
  unfold flat
  rw [List.getElem?_map, List.getElem?_range (idx_lt hi hj)]
  simp only [Option.map_some]
  rw [(idx_div hj).1, (idx_div hj).2]
theorem flat_some {val : Nat → Nat → Value} {m es k : Nat} {u : Value} (h : (flat val m es)[k]? = some u) : ∃ i j, i < m ∧ j < es ∧ k = i * es + j ∧ u = val i j := by
  have hk : k < m * es := by rw [← flat_length val m es]; exact (List.getElem?_eq_some_iff.1 h).1
  have hpos : 0 < es := Nat.pos_of_ne_zero (fun e => by rw [e] at hk; simp at hk)
  have hi : k / es < m := (Nat.div_lt_iff_lt_mul hpos).2 hk
  have hj : k % es < es := Nat.mod_lt _ hpos
  refine ⟨k / es, k % es, hi, hj, by rw [Nat.mul_comm]; exact (Nat.div_add_mod k es).symm, ?_⟩
  unfold flat at h
  rw [List.getElem?_map, List.getElem?_range hk] at h
  simpa using h.symm


/-- What is appended lies as cells that read as these elements. -/
structure Src' (P : Program) (Z : ZS) (w : World) (t : Ty) (tx : TypeId) (v : Value) (new : List t.T) : Prop where
  src : ∃ news, Src P t.size tx v new.length news w ∧ ∀ (i : Nat) (x : t.T), new[i]? = some x → ∃ us, RepT Z w t x us ∧ ∀ (j : Nat) (u : Value), us[j]? = some u → news[i * t.size + j]? = some u

section
variable {P : Program} {K : Ctx} {E : Env} {U : Nat → Prop} {ev : Operand → FV} {a : Act} {w : World} {nid : Nat} {o : Oper} {c : Bool} {e : Eff}

theorem src_cells {t : Ty} {tx b off cap : Nat} {new : List t.T} (hk : (∃ e', P.underlying tx = some (.slice e')) ∨ P.underlying tx = some .string)
    (hr : ∀ (i : Nat) (x : t.T), new[i]? = some x → ∃ us, RepT E.Z w t x us ∧ ∀ (j : Nat) (u : Value), us[j]? = some u → w.cell? ⟨b, off + (i * t.size + j), none⟩ = some u) :
    Src' P E.Z w t tx (.slice (some ⟨b, off, none⟩) new.length cap) new := by
  let val : Nat → Nat → Value := fun i j => (w.cell? ⟨b, off + (i * t.size + j), none⟩).getD undef
  have hval : ∀ i j, i < new.length → j < t.size → w.cell? ⟨b, off + (i * t.size + j), none⟩ = some (val i j) ∧ one (val i j) = true := fun i j hi hj => by
    obtain ⟨us, h1, h2⟩ := hr i _ (List.getElem?_eq_getElem hi)
    have hjl : j < us.length := by rw [RepT.length _ _ _ h1]; exact hj
    have h3 := h2 j _ (List.getElem?_eq_getElem hjl)
    refine ⟨?_, ?_⟩
    · simp only [val, h3]; rfl
    · simp only [val, h3]; exact RepT.ones _ _ _ h1 _ (List.getElem_mem hjl)
  refine ⟨⟨flat val new.length t.size, ⟨hk, fun _ => rfl, ?_, ?_, flat_length _ _ _, fun u hu => ?_⟩, fun i x h1 => ?_⟩⟩
  · refine run_firstCells_some w t.size new.length ⟨b, off, none⟩ new.length cap _ (flat_length _ _ _) (fun k u hk => ?_)
    obtain ⟨i, j, hi, hj, rfl, rfl⟩ := flat_some hk
    rw [Addr.add_lit]
    exact (hval i j hi hj).1
  · refine run_firstCells_some w.drew t.size new.length ⟨b, off, none⟩ new.length cap _ (flat_length _ _ _) (fun k u hk => ?_)
    obtain ⟨i, j, hi, hj, rfl, rfl⟩ := flat_some hk
    rw [Addr.add_lit]
    exact (hval i j hi hj).1
  · obtain ⟨k, hk⟩ := List.mem_iff_getElem?.1 hu
    obtain ⟨i, j, hi, hj, rfl, rfl⟩ := flat_some hk
    exact (hval i j hi hj).2
  · have hi : i < new.length := (List.getElem?_eq_some_iff.1 h1).1
    obtain ⟨us, h2, h3⟩ := hr i x h1
    refine ⟨us, h2, fun j u hu => ?_⟩
    have hj : j < t.size := by rw [← RepT.length _ _ _ h2]; exact (List.getElem?_eq_some_iff.1 hu).1
    rw [flat_at hi hj, ← (hval i j hi hj).1]
    exact h3 j u hu
theorem src_none {t : Ty} {tx : Nat} (hk : (∃ e', P.underlying tx = some (.slice e')) ∨ P.underlying tx = some .string) (ad : Option Addr) (cap : Nat) : Src' P E.Z w t tx (.slice ad 0 cap) [] := by
  refine ⟨⟨[], ⟨hk, fun _ => rfl, ?_, ?_, by simp, fun _ h => by cases h⟩, fun i x h => by simp at h⟩⟩
  · cases ad with
    | none => exact run_firstCells_none w t.size 0 0 cap
    | some ad => exact run_firstCells_some w t.size 0 ad 0 cap [] (by simp) (fun k u h => by simp at h)
  · cases ad with
    | none => exact run_firstCells_none w.drew t.size 0 0 cap
    | some ad => exact run_firstCells_some w.drew t.size 0 ad 0 cap [] (by simp) (fun k u h => by simp at h)

/-- The elements of a part of a row, where they lie. -/
theorem row_cells (hW : WRel K E U w) {ob : Nat} {fz : Bool} {t : Ty} {xs : List t.T} (hH : E.H ob = some (.row fz t xs)) {b off lo n : Nat} (hp : E.ρ ob = some (.at b off)) :
    ∀ (i : Nat) (x : t.T), ((xs.drop lo).take n)[i]? = some x → ∃ us, RepT E.Z w t x us ∧ ∀ (j : Nat) (u : Value), us[j]? = some u → w.cell? ⟨b, off + lo * t.size + (i * t.size + j), none⟩ = some u := fun i x hx => by
  rcases hW.obj ob _ hH with ⟨hvv, _⟩ | ⟨b', off', hp', _, _, hcell⟩
  · rw [hp] at hvv; cases hvv
  · rw [hp] at hp'
    cases hp'
    obtain ⟨us, h1, h2⟩ := hcell _ x (take_drop_get _ _ _ _ _ hx).2
    refine ⟨us, h1, fun j u hu => ?_⟩
    have := h2 j u hu
    rw [show off + ((lo + i) * t.size + j) = off + lo * t.size + (i * t.size + j) by rw [Nat.add_mul]; omega] at this
    exact this

theorem row_src (hW : WRel K E U w) {ob : Nat} {fz : Bool} {t : Ty} {xs : List t.T} (hH : E.H ob = some (.row fz t xs)) {lo n tx : Nat} {v : Value} (hk : (∃ e', P.underlying tx = some (.slice e')) ∨ P.underlying tx = some .string)
    (hr : RepRow E.ρ w ob t.size lo n v) (hle : lo + n ≤ xs.length) : Src' P E.Z w t tx v ((xs.drop lo).take n) := by
  have hl : ((xs.drop lo).take n).length = n := by simp; omega
  rcases hr with ⟨_, rfl, hv⟩ | ⟨b, off, x', cap, hp, hv, hxx, _⟩
  · rw [hv]; simp only [List.take_zero]; exact src_none hk none 0
  · rw [hv]
    by_cases hn : n = 0
    · subst hn; simp only [List.take_zero]; exact src_none hk _ cap
    · have := hxx hn
      subst this
      have := src_cells (P := P) (E := E) (w := w) (cap := cap) hk (row_cells hW hH (lo := lo) (n := n) hp)
      rw [hl] at this
      exact this

theorem rowsOf_src (h : Here K E U ev a w) {x : Operand} {tx : Nat} {sl : Sl} (hk : (∃ e', P.underlying tx = some (.slice e')) ∨ P.underlying tx = some .string)
    (hr : rowsOf E.H (ev x) = some sl) : Src' P E.Z w sl.t tx (a.eval x) sl.xs := by
  have hx := h.e x
  unfold rowsOf at hr
  split at hr
  · rename_i t xs hev
    cases hr
    rw [hev] at hx
    unfold RepFV at hx
    have hx' : RepT E.Z w (.sl t) xs [a.eval x] := hx
    unfold RepT at hx'
    obtain ⟨p, cap, hv, hcs⟩ := hx'
    simp only [List.cons.injEq, and_true] at hv
    rw [hv]
    rcases hcs with rfl | ⟨b, off, rfl, hcap, hcell⟩
    · exact src_none hk p cap
    · exact src_cells hk (fun i x hx => by
        obtain ⟨us, h1, h2⟩ := hcell i x hx
        exact ⟨us, h1, fun j u hu => (h2 j u hu).2⟩)
  · rename_i ob es hev
    split at hr
    · rename_i fz t xs hH
      split at hr
      · rename_i hes
        obtain rfl := Nat.eq_of_beq_eq_true hes
        cases hr
        rw [hev] at hx
        unfold RepFV at hx
        obtain ⟨m, hr, hm⟩ := hx
        have := hm _ _ _ hH
        subst this
        have := row_src (P := P) h.W hH hk hr (by omega)
        simpa using this
      · cases hr
    · cases hr
  · rename_i ob es lo n hev
    split at hr
    · rename_i fz t xs hH
      split at hr
      · rename_i hes
        obtain rfl := Nat.eq_of_beq_eq_true hes
        cases hr
        rw [hev] at hx
        unfold RepFV at hx
        exact row_src (P := P) h.W hH hk hx.1 (hx.2 _ _ _ hH)
      · cases hr
    · cases hr
  · cases hr

theorem newRows_src (h : Here K E U ev a w) {x : Operand} {t : Ty} {tx : Nat} {new : List t.T} (hk : (∃ e', P.underlying tx = some (.slice e')) ∨ P.underlying tx = some .string)
    (hr : newRows E.H t (ev x) = some new) : Src' P E.Z w t tx (a.eval x) new := by
  have hx := h.e x
  unfold newRows at hr
  split at hr
  · rename_i hev
    cases hr
    rw [hev] at hx
    rw [hx.v_eq]
    exact src_none hk none 0
  · rename_i s hev
    split at hr
    · rename_i ht
      subst ht
      cases hr
      rw [hev] at hx
      rw [hx.v_eq]
      have hlen : (byteRows s).length = s.size := by simp [byteRows]
      refine ⟨⟨byteCells s, ?_, fun i y h1 => ?_⟩⟩
      · show Src P 1 tx (.string s) (byteRows s).length (byteCells s) w
        rw [hlen]
        exact ⟨hk, fun _ => rfl, firstCells_string s w, firstCells_string s w.drew, by rw [byteCells_length, Nat.mul_one], fun u hu => by
          unfold byteCells at hu
          obtain ⟨_, _, rfl⟩ := List.mem_map.1 hu
          rfl⟩
      · have h1' : (byteRows s)[i]? = some y := h1
        unfold byteRows at h1'
        rw [List.getElem?_map] at h1'
        obtain ⟨b, hb, rfl⟩ := Option.map_eq_some_iff.1 h1'
        refine ⟨[.int .u8 (b.toNat : Int)], rfl, fun j u hj => ?_⟩
        cases j with
        | zero =>
          simp at hj
          subst hj
          unfold byteCells
          rw [List.getElem?_map, Nat.add_zero, show i * Ty.size (.int .u8) = i from Nat.mul_one i, hb]
          rfl
        | succ j => simp at hj
    · cases hr
  · split at hr
    · rename_i t' xs hro
      split at hr
      · rename_i ht
        subst ht
        cases hr
        exact rowsOf_src h hk hro
      · cases hr
    · cases hr
end
end Eng
end Go.Proofs.Ytjhcdndmbilogaa
