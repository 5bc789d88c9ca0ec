/-
  Spec.ReadEntry gives what RE says.
  CONDITIONS: those that each theorem names.
-/
import Derived.Test.YtjhcdndmbilogaaDoorReadNum
import Derived.Test.YtjhcdndmbilogaaDoorReadParts
import Derived.Lib.LastIndexByte
import Derived.Lib.Bytealg
namespace Go.Proofs.YtjhcdndmbilogaaDoor
open Go.RowKit Go.Shelf
set_option linter.unusedVariables false
set_option linter.unusedSimpArgs false

/-- What both EntryOf give. -/
def entryOf (n : Int) (s : ByteArray) : ByteArray := if 0 ≤ n ∧ n ≤ 40 ∧ s.size ≤ 2000 then entry n s else ⟨#[]⟩
theorem colon_data (s : ByteArray) (i : Nat) (h : i < s.size) : colon s i = (s.data[i]'h == 58) := by
  unfold colon YtjhcdndmbilogaaDoorW.PrintWords.bt
  simp only [Int.toNat_natCast]
  rw [dif_pos h]
  have e : s[i] = s.data[i]'h := rfl
  rw [e]
  rw [Bool.eq_iff_iff, beq_iff_eq, beq_iff_eq]
  constructor
  · intro h2
    apply UInt8.toNat_inj.1
    have : (58 : UInt8).toNat = 58 := rfl
    omega
  · intro h2
    rw [h2]
    rfl
/-- The first colon stands at f, the last at l; the two are not one. -/
structure Two (s : ByteArray) (f l : Nat) : Prop where
  lt : f < l
  size : l < s.size
  cf : colon s f = true
  cl : colon s l = true
  before : ∀ j, j < f → colon s j = false
  behind : ∀ j, l < j → j < s.size → colon s j = false
theorem Two.unique {s : ByteArray} {f l f' l' : Nat} (h : Two s f l) (k : Two s f' l') : f = f' ∧ l = l' := by
  constructor
  · rcases Nat.lt_trichotomy f f' with c | c | c
    · have := k.before f c; rw [h.cf] at this; cases this
    · exact c
    · have := h.before f' c; rw [k.cf] at this; cases this
  · rcases Nat.lt_trichotomy l l' with c | c | c
    · have := h.behind l' c k.size; rw [k.cl] at this; cases this
    · exact c
    · have := k.behind l c h.size; rw [h.cl] at this; cases this
/-- What ReadEntry gives. -/
def RE (s : ByteArray) (n : Int) (line : ByteArray) (ok : Bool) : Prop :=
  ((¬ ∃ f l, Two s f l) ∧ n = 0 ∧ line = ⟨#[]⟩ ∧ ok = false) ∨
  ∃ f l m b, Two s f l ∧ PInt (s.extract 0 f) m b ∧
    ((b = true ∧ entryOf m (s.extract (f + 1) l) = s ∧ n = m ∧ line = s.extract (f + 1) l ∧ ok = true) ∨
     (¬ (b = true ∧ entryOf m (s.extract (f + 1) l) = s) ∧ n = 0 ∧ line = ⟨#[]⟩ ∧ ok = false))
theorem RE.unique {s : ByteArray} {n n' : Int} {x x' : ByteArray} {o o' : Bool} (h : RE s n x o) (k : RE s n' x' o') : n = n' ∧ x = x' ∧ o = o' := by
  rcases h with ⟨h1, rfl, rfl, rfl⟩ | ⟨f, l, m, b, ht, hp, h⟩ <;> rcases k with ⟨k1, rfl, rfl, rfl⟩ | ⟨f', l', m', b', kt, kp, k⟩
  · exact ⟨rfl, rfl, rfl⟩
  · exact absurd ⟨_, _, kt⟩ h1
  · exact absurd ⟨_, _, ht⟩ k1
  · obtain ⟨rfl, rfl⟩ := ht.unique kt
    obtain ⟨rfl, rfl⟩ := hp.unique kp
    rcases h with ⟨h1, h2, rfl, rfl, rfl⟩ | ⟨h1, rfl, rfl, rfl⟩ <;> rcases k with ⟨k1, k2, rfl, rfl, rfl⟩ | ⟨k1, rfl, rfl, rfl⟩
    · exact ⟨rfl, rfl, rfl⟩
    · exact absurd ⟨h1, h2⟩ k1
    · exact absurd ⟨k1, k2⟩ h1
    · exact ⟨rfl, rfl, rfl⟩
/-- An entry with the number 0 begins with '0:'. -/
theorem zero_entry {s x : ByteArray} {f l : Nat} (ht : Two s f l) (h : entryOf 0 x = s) : s.extract 0 f = txt 0 := by
  have htx : Lib.itoa 0 = [48] := by unfold Lib.itoa; rw [if_neg (by decide), show Int.toNat 0 = 0 from rfl, Lib.decDigits, dif_pos (by decide)]; rfl
  unfold entryOf at h
  split at h
  · obtain ⟨r, hr⟩ : ∃ r, s.data.toList = 48 :: 58 :: r := by
      rw [← h]
      unfold entry
      rw [htx]
      simp only [ByteArray.toList_data_append]
      exact ⟨_, rfl⟩
    have hsz : s.data.toList.length = s.size := by simp
    have hl : 2 ≤ s.size := by rw [← hsz, hr]; simp
    have e0 : s.data[0]'(by have : s.data.size = s.size := rfl
                            omega) = 48 := by
      have h1 : s.data.toList[0]? = some 48 := by rw [hr]; rfl
      rw [Array.getElem?_toList] at h1
      exact (Array.getElem?_eq_some_iff.1 h1).2
    have e1 : s.data[1]'(by have : s.data.size = s.size := rfl
                            omega) = 58 := by
      have h1 : s.data.toList[1]? = some 58 := by rw [hr]; rfl
      rw [Array.getElem?_toList] at h1
      exact (Array.getElem?_eq_some_iff.1 h1).2
    have c0 : colon s 0 = false := by rw [colon_data s 0 (by omega), e0]; decide
    have c1 : colon s 1 = true := by rw [colon_data s 1 (by omega), e1]; decide
    have hf : f = 1 := by
      rcases Nat.lt_trichotomy f 1 with c | c | c
      · have : f = 0 := by omega
        have := ht.cf
        simp_all
      · exact c
      · have := ht.before 1 c; rw [c1] at this; cases this
    subst hf
    apply ByteArray.ext
    apply Array.toList_inj.1
    show _ = (txt 0).data.toList
    rw [txt_list, htx]
    simp [hr]
  · have := ht.size
    rw [← h] at this
    exact absurd this (by simp [ByteArray.size])

theorem PInt.total (s : ByteArray) : ∃ n ok, PInt s n ok := by
  by_cases h : ∃ m, -400000000 ≤ m ∧ m ≤ 400000000 ∧ txt m = s
  · obtain ⟨m, h1, h2, h3⟩ := h
    exact ⟨m, true, .inl ⟨rfl, h1, h2, h3⟩⟩
  · exact ⟨0, false, .inr ⟨rfl, rfl, fun m h1 h2 h3 => h ⟨m, h1, h2, h3⟩⟩⟩
theorem below_drewN {B : Nat} {w w' : World} (h : Below B w w') (n : Nat) : Below B w (w'.drewN n) := by
  induction n with
  | zero => exact h
  | succ n ih => rw [← World.drew_drewN]; exact ih.drew
/-- ReadEntry's end. -/
def RetRE (s : ByteArray) (e : Ending) : Prop := ∃ n line ok, e = .returned (.tuple #[.int .i64 n, .string line, .bool ok]) ∧ RE s n line ok
/-- Two colons, or not. -/
theorem two_or (s : ByteArray) : (∃ f l, Two s f l) ∨
    (pieces s s.size 0 0).length < 3 := by
  by_cases h : ∃ f, f < s.size ∧ colon s f = true
  · obtain ⟨f, ⟨hf, hcf⟩, hmin⟩ : ∃ f, (f < s.size ∧ colon s f = true) ∧ ∀ j, j < f → ¬ (j < s.size ∧ colon s j = true) := by
      obtain ⟨f0, h0⟩ := h
      induction f0 using Nat.strongRecOn with
      | _ f0 ih =>
        by_cases hm : ∃ j, j < f0 ∧ (j < s.size ∧ colon s j = true)
        · obtain ⟨j, hj, hj2⟩ := hm
          exact ih j hj hj2
        · exact ⟨f0, h0, fun j hj hj2 => hm ⟨j, hj, hj2⟩⟩
    have hbef : ∀ j, j < f → colon s j = false := fun j hj => by
      have := hmin j hj
      cases hc : colon s j with
      | false => rfl
      | true => exact absurd ⟨by omega, hc⟩ this
    by_cases h2 : ∃ l, f < l ∧ l < s.size ∧ colon s l = true
    · left
      obtain ⟨l0, a1, a2, a3⟩ := h2
      -- the last one: by induction on what is left
      have : ∀ r l, l + r = s.size → f < l → l < s.size → colon s l = true → ∃ l', Two s f l' := by
        intro r
        induction r using Nat.strongRecOn with
        | _ r ih =>
          intro l e1 e2 e3 e4
          by_cases hm : ∃ j, l < j ∧ j < s.size ∧ colon s j = true
          · obtain ⟨j, k1, k2, k3⟩ := hm
            exact ih (s.size - j) (by omega) j (by omega) (by omega) k2 k3
          · refine ⟨l, e2, e3, hcf, e4, hbef, fun j k1 k2 => ?_⟩
            cases hc : colon s j with
            | false => rfl
            | true => exact absurd ⟨j, k1, k2, hc⟩ hm
      obtain ⟨l', hl'⟩ := this (s.size - l0) l0 (by omega) a1 a2 a3
      exact ⟨f, l', hl'⟩
    · right
      rw [pieces_first s s.size 0 0 f (Nat.zero_le _) (by omega) hcf (fun j _ h => hbef j h), pieces_none]
      · simp
      · intro j k1 k2
        cases hc : colon s j with
        | false => rfl
        | true => exact absurd ⟨j, by omega, by omega, hc⟩ h2
  · right
    rw [pieces_none]
    · simp
    · intro j _ k2
      cases hc : colon s j with
      | false => rfl
      | true => exact absurd ⟨j, by omega, hc⟩ h
theorem two_pieces {s : ByteArray} {f l : Nat} (h : Two s f l) : 3 ≤ (pieces s s.size 0 0).length ∧ (pieces s s.size 0 0)[0]? = some (s.extract 0 f) ∧
    (pieces s s.size 0 0)[(pieces s s.size 0 0).length - 1]? = some (s.extract (l + 1) s.size) := by
  have h1 := h.lt
  have h2 := h.size
  rw [pieces_first s s.size 0 0 f (Nat.zero_le _) (by omega) h.cf (fun j _ k => h.before j k)]
  have h3 := pieces_last s (0 + s.size - (f + 1)) (f + 1) (f + 1) l (by omega) (by omega) h.cl (fun j k1 k2 => h.behind j k1 (by omega))
  have h6 := h3.2
  refine ⟨by rw [List.length_cons]; omega, rfl, ?_⟩
  have h4 := h3.1
  rw [List.getLast?_eq_getElem?, show f + 1 + (0 + s.size - (f + 1)) = s.size by omega] at h4
  have h5 := h3.2
  generalize pieces s (0 + s.size - (f + 1)) (f + 1) (f + 1) = p at h4 h5 ⊢
  rw [← h4]
  simp only [List.length_cons, Nat.add_sub_cancel]
  rw [show p.length = (p.length - 1) + 1 by omega]
  simp
theorem not_two {s : ByteArray} (h : (pieces s s.size 0 0).length < 3) : ¬ ∃ f l, Two s f l := fun ⟨f, l, k⟩ => by
  have := (two_pieces k).1
  omega

set_option maxHeartbeats 1000000 in
set_option maxRecDepth 100000 in
theorem spec_ReadEntry (s : ByteArray) (hs : s.size ≤ 4000000000) (w : World) :
    Calls Tryd.prog 9 #[.string s] w fun e w' => RetRE s e ∧ Below w.heap.size w w' := by
  have kS := split_calls s hs w
  by_cases hlen : (pieces s s.size 0 0).length < 3
  · have hre : Hid0 (RE s 0 ⟨#[]⟩ false) := ⟨.inl ⟨not_two hlen, rfl, rfl, rfl⟩⟩
    obtain ⟨L, hL⟩ : ∃ L, (pieces s s.size 0 0).length = L := ⟨_, rfl⟩
    rw [hL] at kS hlen
    have c1 : decide ((L : Int) < 3) = true := decide_eq_true (by omega)
    have c2 : (L : Int) < 3 := by omega
    go_enter Tryd.func9, Tryd.ntmps9
    go_wp2_with (go_at_call 31; refine kS.mono ?_; rintro e w1 ⟨A, c, rfl, hc, hb⟩)
    go_ret3
    exact ⟨⟨0, _, false, rfl, hre.out⟩, hb⟩
  · obtain ⟨f, l, ht⟩ := (two_or s).resolve_right hlen
    obtain ⟨g1, g2, g3⟩ := two_pieces ht
    obtain ⟨m, b, hp⟩ := PInt.total (s.extract 0 f)
    have kP : ∀ w, Calls Tryd.prog 32 #[.string (s.extract 0 f)] w fun e w' => e = .returned (.tuple #[.int .i64 m, .bool b]) ∧ w' = w := fun w =>
      (spec_ParseInt (s.extract 0 f) (by rw [ByteArray.size_extract]; omega) w).mono fun e w' ⟨⟨m', b', he, hp'⟩, hw⟩ => by
        obtain ⟨rfl, rfl⟩ := hp'.unique hp
        exact ⟨he, hw⟩
    have kE : ∀ w, Calls Tryd.prog 7 #[.int .i64 m, .string (s.extract (f + 1) l)] w fun e w' => e = .returned (.string (entryOf m (s.extract (f + 1) l))) ∧ Below w.heap.size w w' := fun w =>
      spec_EntryOf m _ (by rw [ByteArray.size_extract]; omega) w
    have hfl := ht.lt
    have hls := ht.size
    have z0 : (s.extract 0 f).size = f := by rw [ByteArray.size_extract]; omega
    have zL : (s.extract (l + 1) s.size).size = s.size - (l + 1) := by rw [ByteArray.size_extract]; omega
    have hre : Hid0 ((entryOf m (s.extract (f + 1) l) = s → RE s m (s.extract (f + 1) l) true) ∧ (entryOf m (s.extract (f + 1) l) ≠ s → RE s 0 ⟨#[]⟩ false)) := by
      refine ⟨⟨fun hE => .inr ⟨f, l, m, b, ht, hp, .inl ⟨?_, hE, rfl, rfl, rfl⟩⟩, fun hE => .inr ⟨f, l, m, b, ht, hp, .inr ⟨fun h => hE h.2, rfl, rfl, rfl⟩⟩⟩⟩
      rcases hp with ⟨h1, _⟩ | ⟨h1, h2, h3⟩
      · exact h1
      · subst h2
        exact absurd (zero_entry ht hE).symm (h3 0 (by decide) (by decide))
    obtain ⟨L, hL⟩ : ∃ L, (pieces s s.size 0 0).length = L := ⟨_, rfl⟩
    have hL9 : L ≤ 9000000000000000000 := by rw [← hL]; have := pieces_len s s.size 0 0; omega
    rw [hL] at kS hlen g1 g3
    have kS' : ∀ w, Calls Tryd.prog 31 #[.string s, .string ⟨#[58]⟩] w fun e w' => ∃ g c, e = .returned (.slice (some ⟨g, 0, none⟩) L c) ∧
        w'.cell? ⟨g, 0, none⟩ = some (.string (s.extract 0 f)) ∧ w'.cell? ⟨g, L - 1, none⟩ = some (.string (s.extract (l + 1) s.size)) ∧ Below w.heap.size w w' := fun w =>
      (split_calls s hs w).mono fun e w' ⟨A, c, he, hc, hb⟩ => ⟨A, c, by rw [hL] at he; exact he, hc 0 _ g2, hc _ _ g3, hb⟩
    clear kS hp ht g2 g3 hL
    generalize s.extract 0 f = P0 at kP kS' z0
    generalize s.extract (l + 1) s.size = PL at kS' zL
    have c1 : decide ((L : Int) < 3) = false := decide_eq_false (by omega)
    have c2 : ¬ (L : Int) < 3 := by omega
    have c3 : 0 < L := by omega
    have c4 : wrap64 ((L : Int) - 1) = ((L - 1 : Nat) : Int) := by rw [IntWalk.wrap64_in _ (by omega)]; omega
    have c5 : L - 1 < L := by omega
    obtain ⟨q, hq⟩ : ∃ q, s.size - (l + 1) = q := ⟨_, rfl⟩
    rw [hq] at zL
    have c9 : (s.size : Int) - (q : Int) - 1 = (l : Int) := by omega
    have d1 : ¬ (l : Int) < (f : Int) + 1 := by omega
    have d2 : (0 ≤ (f : Int) + 1) = True := eq_true (by omega)
    have d3 : ((f : Int) + 1 ≤ (l : Int)) = True := eq_true (by omega)
    have d4 : ((l : Int) ≤ (s.size : Int)) = True := eq_true (by omega)
    have d5 : ((f : Int) + 1).toNat = f + 1 := by omega
    clear hq
    by_cases hE : entryOf m (s.extract (f + 1) l) = s
    · have e2 : ((entryOf m (s.extract (f + 1) l)).toList == s.toList) = true := by rw [hE]; exact beq_self_eq_true _
      have hre' := Hid0.mk (hre.out.1 hE)
      clear hre hE
      generalize entryOf m (s.extract (f + 1) l) = E at kE e2
      go_enter Tryd.func9, Tryd.ntmps9
      go_wp2_with (first | (go_at_call 31; refine (kS' _).mono ?_; rintro e w1 ⟨A, c, rfl, hc0, hcL, hb⟩) | (go_at_call 32; refine (kP _).mono ?_; rintro e w1 ⟨rfl, rfl⟩) | (go_at_call 7; refine (kE _).mono ?_; rintro e w2 ⟨rfl, hb2⟩))
      go_quiet (fail)
      go_wp2
      go_ret3
      refine ⟨⟨_, _, true, rfl, hre'.out⟩, ?_⟩
      exact below_drewN (hb.trans (hb2.mono hb.size)) _
    · have e2 : ((entryOf m (s.extract (f + 1) l)).toList == s.toList) = false := text_ne hE
      have hre' := Hid0.mk (hre.out.2 hE)
      clear hre hE
      generalize entryOf m (s.extract (f + 1) l) = E at kE e2
      go_enter Tryd.func9, Tryd.ntmps9
      go_wp2_with (first | (go_at_call 31; refine (kS' _).mono ?_; rintro e w1 ⟨A, c, rfl, hc0, hcL, hb⟩) | (go_at_call 32; refine (kP _).mono ?_; rintro e w1 ⟨rfl, rfl⟩) | (go_at_call 7; refine (kE _).mono ?_; rintro e w2 ⟨rfl, hb2⟩))
      go_ret3
      exact ⟨⟨_, _, false, rfl, hre'.out⟩, hb.trans (hb2.mono hb.size)⟩
end Go.Proofs.YtjhcdndmbilogaaDoor
