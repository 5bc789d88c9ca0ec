/-
  The engine, part 10: append.
  CONDITIONS: those that each theorem names.
-/
import Derived.Test.YtjhcdndmbilogaaE9
namespace Go.Proofs.Ytjhcdndmbilogaa
namespace Eng
open Go Go.RowKit
set_option linter.unusedVariables false
set_option linter.unusedSimpArgs false

theorem Le.drew (E : Env) (w : World) : Le E w E w.drew := ⟨Ext.refl _, fun _ _ h => h, fun _ _ _ => rfl, fun _ _ h => h, fun _ _ _ _ _ _ h => ⟨_, _, _, h, rfl⟩⟩

section
variable {P : Program} {K : Ctx} {E : Env} {U : Nat → Prop} {ev : Operand → FV} {a : Act} {w : World} {nid : Nat} {o : Oper} {c : Bool} {e : Eff}

theorem WRel.drew (hW : WRel K E U w) : WRel K E U w.drew :=
  hW.upd (Le.drew E w) (fun o ob h => .inl ⟨h, fun _ _ _ => ⟨rfl, fun _ h => h⟩⟩) hW.inj hW.mine hW.zlt (fun _ _ h => .inl h) hW.used ⟨hW.fr.os, hW.fr.tape, hW.fr.output, hW.fr.size, hW.fr.block, hW.fr.cells⟩ (fun _ _ => rfl)

/-- A new empty row that lies nowhere. -/
theorem WRel.virt (hW : WRel K E U w) {n : Nat} {fz : Bool} {t : Ty} (hn : ¬ U n) :
    Le E w ⟨updP E.ρ n .virt, E.Z, setH E.H n (some (.row fz t []))⟩ w ∧ WRel K ⟨updP E.ρ n .virt, E.Z, setH E.H n (some (.row fz t []))⟩ (fun y => U y ∨ y = n) w := by
  have hl : Le E w ⟨updP E.ρ n .virt, E.Z, setH E.H n (some (.row fz t []))⟩ w :=
    ⟨updP_ext (hW.free hn), fun _ _ h => h, fun _ _ _ => rfl, fun _ _ h => h, fun x p fz t xs hx hh => by
      by_cases e : x = n
      · subst e; rw [hW.free hn] at hx; cases hx
      · simp only [setH_ne _ _ e] at hh; exact ⟨_, _, _, hh, rfl⟩⟩
  refine ⟨hl, hW.upd hl (fun y oy hy => ?_) (fun y z oy oz k off1 off2 hy hz hpy hpz => ?_) (fun y oy k off1 hy hpy => ?_) hW.zlt (fun _ _ h => .inl h) (fun y p hy => ?_) hW.fr (fun _ _ => rfl)⟩
  · by_cases ey : y = n
    · subst ey
      simp only [setH_same, Option.some.injEq] at hy
      subst hy
      exact .inr (Or.inl ⟨updP_same _ _ _, rfl⟩)
    · simp only [setH_ne _ _ ey] at hy
      exact .inl ⟨hy, fun _ _ _ => ⟨rfl, fun _ h => h⟩⟩
  · simp only [setH, updP] at hy hz hpy hpz
    by_cases ey : y = n
    · rw [if_pos ey] at hpy; cases hpy
    · by_cases ez : z = n
      · rw [if_pos ez] at hpz; cases hpz
      · rw [if_neg ey] at hpy hy; rw [if_neg ez] at hpz hz
        exact hW.inj y z oy oz k off1 off2 hy hz hpy hpz
  · simp only [setH, updP] at hy hpy
    by_cases ey : y = n
    · rw [if_pos ey] at hpy; cases hpy
    · rw [if_neg ey] at hpy hy; exact hW.mine y oy k off1 hy hpy
  · simp only [updP] at hy
    by_cases ey : y = n
    · exact .inr ey
    · rw [if_neg ey] at hy; exact .inl (hW.used y p hy)

theorem nextcap_fits {need old bytes : Nat} (h : old < need) (hb : need * bytes ≤ lim) : Builtin.nextslicecap need old * bytes ≤ 281474976710656 :=
  growslice_fits h (Nat.le_trans hb (by unfold lim; omega))

theorem app_del_put (H : Hp) (e : Eff) (x n : Nat) (ob : Obj) (h1 : e.put = [(n, ob)]) (h2 : e.del = [x]) : e.app H = setH (setH H x none) n (some ob) := by
  funext y
  unfold Eff.app setH
  rw [h1, h2, lookL_cons]
  by_cases h : y = n
  · simp [h]
  · simp [h, lookL]

/-- The elements of what was there and of what is appended, in a new block. -/
theorem grown_rows {t : Ty} {old new : List t.T} {olds news : List Value} {arr : Array Value} (hol : olds.length = old.length * t.size) (harr : ∀ k, k < (olds ++ news).length → arr[k]? = (olds ++ news)[k]?)
    (hnl : news.length = new.length * t.size)
    (ho : ∀ (i : Nat) (x : t.T), old[i]? = some x → ∃ us, RepT E.Z w t x us ∧ ∀ (j : Nat) (u : Value), us[j]? = some u → olds[i * t.size + j]? = some u)
    (hn : ∀ (i : Nat) (x : t.T), new[i]? = some x → ∃ us, RepT E.Z w t x us ∧ ∀ (j : Nat) (u : Value), us[j]? = some u → news[i * t.size + j]? = some u)
    (i : Nat) (x : t.T) (h1 : (old ++ new)[i]? = some x) : ∃ us, RepT E.Z w t x us ∧ ∀ (j : Nat) (u : Value), us[j]? = some u → arr[i * t.size + j]? = some u := by
  by_cases hi : i < old.length
  · rw [List.getElem?_append_left hi] at h1
    obtain ⟨us, h3, h4⟩ := ho i x h1
    refine ⟨us, h3, fun j u hu => ?_⟩
    have hj : j < t.size := by rw [← RepT.length _ _ _ h3]; exact (List.getElem?_eq_some_iff.1 hu).1
    have hk := idx_lt (m := old.length) hi hj
    rw [harr _ (by rw [List.length_append]; omega), List.getElem?_append_left (by omega)]
    exact h4 j u hu
  · rw [List.getElem?_append_right (by omega)] at h1
    obtain ⟨us, h3, h4⟩ := hn (i - old.length) x h1
    refine ⟨us, h3, fun j u hu => ?_⟩
    have hj : j < t.size := by rw [← RepT.length _ _ _ h3]; exact (List.getElem?_eq_some_iff.1 hu).1
    have hi2 : i - old.length < new.length := (List.getElem?_eq_some_iff.1 h1).1
    have hk := idx_lt (m := new.length) hi2 hj
    have e1 : i * t.size = old.length * t.size + (i - old.length) * t.size := by rw [← Nat.add_mul]; congr 1; omega
    rw [harr _ (by rw [List.length_append]; omega), List.getElem?_append_right (by omega)]
    rw [show i * t.size + j - olds.length = (i - old.length) * t.size + j by omega]
    exact h4 j u hu

/-- An append that makes a new block. -/
theorem append_grow {t tx et : TypeId} {te : TI} {ty : Ty} {s x : Operand} (ho : o.op = .call { callee := .builtin .append, args := #[s, x], argTypes := #[t, tx] })
    (hu : P.underlying t = some (.slice et)) (hte : tiOf P et = some te) (hty : ty.size = te.size) {base : Option Addr} {n cap : Nat} (hs : a.eval s = .slice base n cap) {old new : List ty.T} (hsrc : Src' P E.Z w ty tx (a.eval x) new) (hon : old.length = n)
    (hold : ∃ olds : List Value, olds.length = n * ty.size ∧ (Builtin.firstCells ty.size n (.slice base n cap)).run P w.drew = .ok olds.toArray w.drew ∧
      ∀ (i : Nat) (x : ty.T), old[i]? = some x → ∃ us, RepT E.Z w ty x us ∧ ∀ (j : Nat) (u : Value), us[j]? = some u → olds[i * ty.size + j]? = some u)
    (hg : cap < n + new.length) (hb : (n + new.length) * te.bytes ≤ lim) (h63 : n + new.length ≤ lim) :
    ∃ arr cap', (execOp a.eval o).run P w = .ok (.value (.slice (some ⟨w.heap.size, 0, none⟩) (n + new.length) cap')) (w.drew.alloc (.cells arr et)) ∧
      (old ++ new).length * ty.size ≤ arr.size ∧ cap' * ty.size ≤ arr.size ∧ n + new.length ≤ cap' ∧
      ∀ (i : Nat) (x : ty.T), (old ++ new)[i]? = some x → ∃ us, RepT E.Z w ty x us ∧ ∀ (j : Nat) (u : Value), us[j]? = some u → arr[i * ty.size + j]? = some u := by
  obtain ⟨d', i', z', hu', hi', hz', hzc, hsz, hby, _, h1z⟩ := tiOf_ok hte
  obtain ⟨⟨news, hs1, hs2⟩⟩ := hsrc
  obtain ⟨olds, ho1, ho2, ho3⟩ := hold
  have hszt : i'.size = ty.size := by rw [hsz, hty]
  have hcapge : n + new.length ≤ grownCap w (n + new.length) cap et := by unfold grownCap; exact Nat.le_add_right _ _
  rw [← hszt] at hs1 ho2
  have hrun := run_append_grow_src (P := P) w t tx o.type et i' z' hu hi' hz' base n cap olds ho2 (a.eval x) new.length news hs1 hg (by unfold lim at h63; omega) (by rw [hby]; exact nextcap_fits hg hb)
  rw [hszt] at hs1
  have hzsz : z'.cells.size = ty.size := by rw [← Array.length_toList, hzc, hty]; rfl
  have hasz : ((olds ++ news).toArray ++ Builtin.zeroCells z'.cells (grownCap w (n + new.length) cap et - (n + new.length))).size = grownCap w (n + new.length) cap et * ty.size := by
    have e1 := hs1.newsLen
    simp only [Array.size_append, List.size_toArray, List.length_append, Builtin.zeroCells, Array.size_map, Array.size_range, hzsz]
    rw [ho1, e1, ← Nat.add_mul, ← Nat.add_mul]
    congr 1
    omega
  refine ⟨_, _, by simp [execOp, ho, resolve, invoke, builtin, hs, hrun]; rfl, ?_, ?_, hcapge, ?_⟩
  · rw [hasz, List.length_append, hon]
    exact Nat.mul_le_mul_right _ hcapge
  · exact Nat.le_of_eq hasz.symm
  · refine grown_rows (by rw [ho1, hon]) (fun k hk => ?_) hs1.newsLen ho3 hs2
    rw [Array.getElem?_append_left (by simpa using hk)]
    simp

theorem bytes_lim {n bytes : Nat} (h : n ≤ cap36) (hb : bytes ≤ 512) : n * bytes ≤ lim ∧ n ≤ lim := by
  unfold cap36 at h
  have : n * bytes ≤ 68719476736 * 512 := Nat.mul_le_mul h hb
  unfold lim
  omega

theorem RepRow.allC {nid es n b x cap : Nat} {E : Env} {w : World} (hp : E.ρ nid = some (.at b x)) (hc : n ≤ cap) (hcl : Cells w b (x + cap * es)) : RepRow E.ρ w nid es 0 n (.slice (some ⟨b, x, none⟩) n cap) :=
  .inr ⟨b, x, x, cap, hp, rfl, fun _ => by omega, hc, hcl⟩

theorem ok_append_nil (h : Here K E U ev a w) (hn : ¬ U nid) {t tx et : TypeId} {te : TI} {ty : Ty} {s x : Operand} {new : List ty.T} (ho : o.op = .call { callee := .builtin .append, args := #[s, x], argTypes := #[t, tx] })
    (hu : P.underlying t = some (.slice et)) (hte : tiOf P et = some te) (hty : ty.size = te.size) (hb512 : te.bytes ≤ 512) (hs : a.eval s = .slice none 0 0) (hsrc : Src' P E.Z w ty tx (a.eval x) new) (hcap : new.length ≤ cap36)
    (hv : e.val = .c (.all nid te.size)) (hp : e.put = [(nid, .row false ty new)]) (hd : e.del = []) : Ok P K E U a w nid o e := by
  obtain ⟨hb, h63⟩ := bytes_lim hcap hb512
  obtain ⟨d', i', z', hu', hi', hz', hzc, hsz, hby, _, h1z⟩ := tiOf_ok hte
  by_cases hm : new.length = 0
  · obtain rfl := List.eq_nil_of_length_eq_zero hm
    obtain ⟨⟨news, hs1, hs2⟩⟩ := hsrc
    have hnil : news = [] := List.eq_nil_of_length_eq_zero (by have := hs1.newsLen; simpa using this)
    subst hnil
    rw [hty, ← hsz] at hs1
    have hrun := run_append_nothing (P := P) w t tx o.type et i' hu hi' none 0 0 (Nat.le_refl _) (a.eval x) hs1
    refine Goes.val (w' := w) (v := .slice none 0 0) (by simp [execOp, ho, resolve, invoke, builtin, hs, hrun]) ?_
    rw [app_one E.H e nid _ hp hd, hv]
    obtain ⟨hl, hW⟩ := h.W.virt (fz := false) (t := ty) hn
    exact ⟨_, rfl, hl, hW, RepFV.ofC ⟨0, .inl ⟨updP_same _ _ _, rfl, rfl⟩, fun fz' t' xs' hh => by simp only [setH_same, Option.some.injEq] at hh; cases hh; rfl⟩⟩
  · obtain ⟨arr, cap', hrun, ha1, ha2, ha3, ha4⟩ := append_grow (E := E) (a := a) (o := o) ho hu hte hty hs (old := []) hsrc rfl ⟨[], by simp, run_firstCells_none w.drew ty.size 0 0 0, fun i x h => by simp at h⟩ (by omega) (by simpa using hb) (by omega)
    simp only [List.nil_append, Nat.zero_add] at hrun ha1 ha3 ha4
    obtain ⟨hl, hW⟩ := h.W.drew.newRow hn (fz := false) (t := ty) (xs := new) arr et ha1 (fun i x hx => by
      obtain ⟨us, h3, h4⟩ := ha4 i x hx
      exact ⟨us, RepT.mono (Le.drew E w).Z (Le.drew E w).k _ _ _ h3, h4⟩)
    refine Goes.val hrun ?_
    rw [app_one E.H e nid _ hp hd, hv]
    refine ⟨_, rfl, (Le.drew E w).trans hl, hW, RepFV.ofC ⟨new.length, RepRow.allC (updP_same _ _ _) ha3 ⟨arr, et, pushW_new w.drew arr et, by rw [← hty]; omega⟩, fun fz' t' xs' hh => ?_⟩⟩
    simp only [setH_same, Option.some.injEq] at hh
    cases hh
    rfl

theorem ok_append_row (h : Here K E U ev a w) (hn : ¬ U nid) {t tx et : TypeId} {te : TI} {ty : Ty} {s x : Operand} {ob lo n : Nat} {fz : Bool} {xs new : List ty.T} (ho : o.op = .call { callee := .builtin .append, args := #[s, x], argTypes := #[t, tx] })
    (hu : P.underlying t = some (.slice et)) (hte : tiOf P et = some te) (hty : ty.size = te.size) (hb512 : te.bytes ≤ 512) (hH : E.H ob = some (.row fz ty xs)) (hs : RepRow E.ρ w ob ty.size lo n (a.eval s)) (hfit : lo + n ≤ xs.length)
    (hfz : fz = true → lo = 0 ∧ n = xs.length)
    (hsrc : Src' P E.Z w ty tx (a.eval x) new) (hcap : n + new.length ≤ cap36)
    (hv : e.val = .c (.all nid te.size)) (hp : e.put = [(nid, .row fz ty ((xs.drop lo).take n ++ new))]) (hd : e.del = [ob]) : Ok P K E U a w nid o e := by
  obtain ⟨hb, h63⟩ := bytes_lim hcap hb512
  obtain ⟨d', i', z', hu', hi', hz', hzc, hsz, hby, _, h1z⟩ := tiOf_ok hte
  have hszt : i'.size = ty.size := by rw [hsz, hty]
  have hne : ob ≠ nid := fun e => by
    subst e
    have := h.W.none_H hn
    rw [hH] at this
    cases this
  have hl1 : ((xs.drop lo).take n).length = n := by simp; omega
  have hltot : ((xs.drop lo).take n ++ new).length = n + new.length := by rw [List.length_append, hl1]
  obtain ⟨hld, hWd⟩ := h.W.del ob
  have hfin : ∀ (ρ' : Place) (Z' : ZS) (v : Value) (w' : World), RepRow ρ' w' nid te.size 0 (n + new.length) v →
      RepFV ⟨ρ', Z', setH (setH E.H ob none) nid (some (.row fz ty ((xs.drop lo).take n ++ new)))⟩ w' (.c (.all nid te.size)) v := fun ρ' Z' v w' hr =>
    RepFV.ofC ⟨_, hr, fun fz' t' xs' hh => by simp only [setH_same, Option.some.injEq] at hh; cases hh; exact hltot.symm⟩
  rcases hs with ⟨hvv, hn0, hsv⟩ | ⟨b, off, x', cap, hpl, hsv, hxx, hcap', hcl⟩
  · -- an empty row that lies nowhere
    subst hn0
    simp only [List.take_zero, List.nil_append, Nat.zero_add] at hp hb h63 hfin
    by_cases hm : new.length = 0
    · obtain rfl := List.eq_nil_of_length_eq_zero hm
      obtain ⟨⟨news, hs1, hs2⟩⟩ := hsrc
      have hnil : news = [] := List.eq_nil_of_length_eq_zero (by have := hs1.newsLen; simpa using this)
      subst hnil
      rw [← hszt] at hs1
      have hrun := run_append_nothing (P := P) w t tx o.type et i' hu hi' none 0 0 (Nat.le_refl _) (a.eval x) hs1
      refine Goes.val (w' := w) (v := .slice none 0 0) (by simp [execOp, ho, resolve, invoke, builtin, hsv, hrun]) ?_
      rw [app_del_put E.H e ob nid _ hp hd, hv]
      obtain ⟨hl, hW⟩ := hWd.virt (fz := fz) (t := ty) hn
      exact ⟨_, rfl, hld.trans hl, hW, hfin _ _ _ _ (.inl ⟨updP_same _ _ _, rfl, rfl⟩)⟩
    · obtain ⟨arr, cap', hrun, ha1, ha2, ha3, ha4⟩ := append_grow (E := E) (a := a) (o := o) ho hu hte hty hsv (old := []) hsrc rfl ⟨[], by simp, run_firstCells_none w.drew ty.size 0 0 0, fun i x h => by simp at h⟩ (by omega) (by simpa using hb) (by omega)
      simp only [List.nil_append, Nat.zero_add] at hrun ha1 ha3 ha4
      obtain ⟨hl, hW⟩ := hWd.drew.newRow hn (fz := fz) (t := ty) (xs := new) arr et ha1 (fun i x hx => by
        obtain ⟨us, h3, h4⟩ := ha4 i x hx
        exact ⟨us, RepT.mono (Le.drew E w).Z (Le.drew E w).k _ _ _ h3, h4⟩)
      refine Goes.val hrun ?_
      rw [app_del_put E.H e ob nid _ hp hd, hv]
      refine ⟨_, rfl, (hld.trans (Le.drew _ w)).trans hl, hW, hfin _ _ _ _ (RepRow.allC (E := ⟨_, E.Z, E.H⟩) (updP_same _ _ _) ha3 ⟨arr, et, pushW_new w.drew arr et, by rw [← hty]; omega⟩)⟩
  · have hold : ∀ (i : Nat) (y : ty.T), ((xs.drop lo).take n)[i]? = some y → ∃ us, RepT E.Z w ty y us ∧ ∀ (j : Nat) (u : Value), us[j]? = some u → w.cell? ⟨b, x' + (i * ty.size + j), none⟩ = some u := fun i y hy => by
      have hi : i < n := by rw [← hl1]; exact (List.getElem?_eq_some_iff.1 hy).1
      have := hxx (by omega)
      subst this
      exact row_cells h.W hH hpl i y hy
    by_cases hroom : n + new.length ≤ cap
    · -- in place
      obtain ⟨⟨news, hs1, hs2⟩⟩ := hsrc
      have hnl := hs1.newsLen
      have hmul : n * ty.size + new.length * ty.size ≤ cap * ty.size := by rw [← Nat.add_mul]; exact Nat.mul_le_mul_right _ hroom
      have hbound : x' + n * ty.size + news.length ≤ x' + cap * ty.size := by omega
      rw [← hszt] at hs1
      have hrun := run_append_room_src (P := P) w t tx o.type et i' hu hi' b x' n cap (a.eval x) new.length news hs1 hroom (fun j hj => by rw [hszt]; exact cell_of hcl (by omega)) (fun j hj => frozen_of hcl _)
      rw [hszt] at hrun
      have honly : OnlyB b w (w.setCells b (x' + n * ty.size) news) := setCells_only news
      have hzb : ∀ y, E.Z b y → fz = true ∧ x' ≤ y ∧ y < x' + n * ty.size := fun y hy => by
        rcases h.W.obj ob _ hH with ⟨hv', _⟩ | ⟨b', off', hp', hz, _⟩
        · rw [hpl] at hv'; cases hv'
        · rw [hpl] at hp'
          cases hp'
          obtain ⟨h1, h2, h3⟩ := hz y hy
          obtain ⟨hlo, hnl⟩ := hfz h1
          subst hlo
          subst hnl
          by_cases h0 : xs.length = 0
          · rw [h0] at h3; omega
          · have := hxx h0
            rw [this]
            exact ⟨h1, by omega, by omega⟩
      obtain ⟨hl, hW⟩ := h.W.move (ob' := .row fz ty ((xs.drop lo).take n ++ new)) (x := x') hH hpl hn honly
        (fun y hy => by rw [cells_get hcl hbound, if_neg (by have := hzb y hy; omega)])
        (fun hl => Or.inr ⟨b, x', updP_same _ _ _, fun y hy => by
            obtain ⟨h1, h2, h3⟩ := hzb y hy
            refine ⟨h1, h2, ?_⟩
            rw [hltot, Nat.add_mul]
            omega, by rw [hltot, Nat.add_mul]; exact (honly.cells _ _ hcl).le (by omega), fun i y hy => by
            by_cases hi : i < n
            · rw [List.getElem?_append_left (by omega)] at hy
              obtain ⟨us, h3, h4⟩ := hold i y hy
              refine ⟨us, RepT.mono hl.Z hl.k _ _ _ h3, fun j u hu => ?_⟩
              have hj : j < ty.size := by rw [← RepT.length _ _ _ h3]; exact (List.getElem?_eq_some_iff.1 hu).1
              have := idx_lt hi hj
              rw [cells_get hcl hbound, if_neg (by omega)]
              exact h4 j u hu
            · rw [List.getElem?_append_right (by omega), hl1] at hy
              obtain ⟨us, h3, h4⟩ := hs2 (i - n) y hy
              refine ⟨us, RepT.mono hl.Z hl.k _ _ _ h3, fun j u hu => ?_⟩
              have hj : j < ty.size := by rw [← RepT.length _ _ _ h3]; exact (List.getElem?_eq_some_iff.1 hu).1
              have hi2 : i - n < new.length := (List.getElem?_eq_some_iff.1 hy).1
              have := idx_lt hi2 hj
              have e1 : i * ty.size = n * ty.size + (i - n) * ty.size := by rw [← Nat.add_mul]; congr 1; omega
              rw [cells_get hcl hbound, if_pos (by omega), show x' + (i * ty.size + j) - (x' + n * ty.size) = (i - n) * ty.size + j by omega]
              exact h4 j u hu⟩)
      refine Goes.val (w' := w.setCells b (x' + n * ty.size) news) (v := .slice (some ⟨b, x', none⟩) (n + new.length) cap) (by simp [execOp, ho, resolve, invoke, builtin, hsv, hrun]) ?_
      rw [app_del_put E.H e ob nid _ hp hd, hv]
      exact ⟨_, rfl, hl, hW, hfin _ _ _ _ (RepRow.allC (E := ⟨_, E.Z, E.H⟩) (updP_same _ _ _) hroom (by rw [← hty]; exact honly.cells _ _ hcl))⟩
    · -- a new block
      have hcells : ∃ olds : List Value, olds.length = n * ty.size ∧ (Builtin.firstCells ty.size n (.slice (some ⟨b, x', none⟩) n cap)).run P w.drew = .ok olds.toArray w.drew ∧
          ∀ (i : Nat) (y : ty.T), ((xs.drop lo).take n)[i]? = some y → ∃ us, RepT E.Z w ty y us ∧ ∀ (j : Nat) (u : Value), us[j]? = some u → olds[i * ty.size + j]? = some u := by
        have := (src_cells (P := P) (E := E) (w := w) (tx := tx) (b := b) (off := x') (cap := cap) (new := (xs.drop lo).take n) hsrc.src.choose_spec.1.kind hold).src
        rw [hl1] at this
        obtain ⟨olds, h1, h2⟩ := this
        exact ⟨olds, h1.newsLen, h1.cellsD, h2⟩
      obtain ⟨arr, cap', hrun, ha1, ha2, ha3, ha4⟩ := append_grow (E := E) (a := a) (o := o) ho hu hte hty hsv hsrc hl1 hcells (by omega) hb h63
      obtain ⟨hl, hW⟩ := hWd.drew.newRow hn (fz := fz) (t := ty) (xs := (xs.drop lo).take n ++ new) arr et ha1 (fun i y hy => by
        obtain ⟨us, h3, h4⟩ := ha4 i y hy
        exact ⟨us, RepT.mono (Le.drew E w).Z (Le.drew E w).k _ _ _ h3, h4⟩)
      refine Goes.val hrun ?_
      rw [app_del_put E.H e ob nid _ hp hd, hv]
      refine ⟨_, rfl, (hld.trans (Le.drew _ w)).trans hl, hW, hfin _ _ _ _ (RepRow.allC (E := ⟨_, E.Z, E.H⟩) (updP_same _ _ _) ha3 ⟨arr, et, pushW_new w.drew arr et, by rw [← hty]; omega⟩)⟩

theorem kind_of {txi : TI} {tx : TypeId} (htx : tiOf P tx = some txi) (hc : okTx txi.k = true) : (∃ e', P.underlying tx = some (.slice e')) ∨ P.underlying tx = some .string := by
  obtain ⟨d, i, z, hu, _, _, _, _, _, hk, _⟩ := tiOf_ok htx
  unfold okTx at hc
  split at hc
  · rename_i et hks
    rw [hks] at hk
    exact .inl ⟨et, by rw [hu, tk_slice hk]⟩
  · rename_i hks
    rw [hks] at hk
    exact .inr (by rw [hu, tk_string hk])
  · cases hc

theorem ownRow_ok (h : Here K E U ev a w) {s : Operand} {ob lo : Nat} {fz : Bool} {sl : Sl} (hr : ownRow E.H (ev s) = some (ob, fz, lo, sl)) :
    ∃ n xs, E.H ob = some (.row fz sl.t xs) ∧ RepRow E.ρ w ob sl.t.size lo n (a.eval s) ∧ lo + n ≤ xs.length ∧ sl.xs = (xs.drop lo).take n ∧ (fz = true → lo = 0 ∧ n = xs.length) ∧ sl.xs.length = n := by
  have hs := h.e s
  unfold ownRow at hr
  split at hr
  · rename_i o' es hev
    rw [hev] at hs
    unfold RepFV at hs
    split at hr
    · rename_i fz' t xs hH
      split at hr
      · rename_i hes
        obtain rfl := Nat.eq_of_beq_eq_true hes
        simp only [Option.some.injEq, Prod.mk.injEq] at hr
        obtain ⟨rfl, rfl, rfl, rfl⟩ := hr
        obtain ⟨m, hr, hm⟩ := hs
        have := hm _ _ _ hH
        subst this
        exact ⟨_, xs, hH, hr, by omega, by simp, fun _ => ⟨rfl, rfl⟩, rfl⟩
      · cases hr
    · cases hr
  · rename_i o' es lo' n hev
    rw [hev] at hs
    unfold RepFV at hs
    split at hr
    · rename_i fz' t xs hH
      split at hr
      · rename_i hes
        obtain rfl := Nat.eq_of_beq_eq_true hes
        split at hr
        · simp only [Option.some.injEq, Prod.mk.injEq] at hr
          obtain ⟨rfl, rfl, rfl, rfl⟩ := hr
          have := hs.2 _ _ _ hH
          exact ⟨n, xs, hH, hs.1, this, rfl, (fun h => by cases h), by simp; omega⟩
        · cases hr
      · cases hr
    · cases hr
  · cases hr

theorem ok_append (h : Here K E U ev a w) (hn : ¬ U nid) {args : Array Operand} {argTypes : Array TypeId} (ho : o.op = .call { callee := .builtin .append, args, argTypes }) (hc : c = true) (he : opEff P ev E.H nid o.op = some (c, e)) : Ok P K E U a w nid o e := by
  rw [ho] at he
  simp only [opEff] at he
  split at he
  · rename_i s x t tx hx ht
    have hargs : args = #[s, x] := by apply Array.ext'; exact hx
    have htys : argTypes = #[t, tx] := by apply Array.ext'; exact ht
    subst hargs
    subst htys
    split at he
    · rename_i et te txi hel htx
      obtain ⟨hu, hte⟩ := elemOf_ok hel
      split at he
      · rename_i hcond
        obtain ⟨hb512, hok⟩ := hcond
        have hkind := kind_of htx hok
        have hsr := h.e s
        split at he
        · rename_i hev
          rw [hev] at hsr
          split at he
          · rename_i ty hty
            split at he
            · rename_i hsz
              split at he
              · rename_i new hnew
                simp only [Option.some.injEq, Prod.mk.injEq] at he
                obtain ⟨rfl, rfl⟩ := he
                simp only [decide_eq_true_eq] at hc
                exact ok_append_nil h hn ho hu hte hsz hb512 hsr.v_eq (newRows_src h hkind hnew) hc rfl rfl rfl
              · cases he
            · cases he
          · cases he
        · split at he
          · rename_i ob fz lo ty xs0 hown
            split at he
            · rename_i hsz
              split at he
              · rename_i new hnew
                simp only [Option.some.injEq, Prod.mk.injEq] at he
                obtain ⟨rfl, rfl⟩ := he
                simp only [decide_eq_true_eq] at hc
                obtain ⟨n, xs, hH, hr, hle, hxs, hfz, hlen⟩ := ownRow_ok h hown
                simp only at hH hr hxs hlen
                exact ok_append_row h hn ho hu hte hsz hb512 hH hr hle hfz (newRows_src h hkind hnew) (by rw [← hlen]; exact hc) rfl (by rw [← hxs]) rfl
              · cases he
            · cases he
          · cases he
      · cases he
    · cases he
  · cases he
end
end Eng
end Go.Proofs.Ytjhcdndmbilogaa
