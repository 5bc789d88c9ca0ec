/-
  Spec.ParseInt and IsNumber compute what PInt says.
  CONDITIONS: those that each theorem names.
-/
import Derived.Test.YtjhcdndmbilogaaDoorEntryWalk
import Derived.Test.YtjhcdndmbilogaaDoorReadPlain
namespace Go.Proofs.YtjhcdndmbilogaaDoor
open Go.RowKit Go.Shelf
set_option linter.unusedVariables false
set_option linter.unusedSimpArgs false

/-- 1 behind a minus sign. -/
def sgn (l : List UInt8) : Nat := if l.head? = some 45 then 1 else 0
theorem itoa_cases (m : Int) : (m < 0 ∧ Lib.itoa m = 45 :: Lib.decDigits m.natAbs ∧ sgn (Lib.itoa m) = 1) ∨ (0 ≤ m ∧ Lib.itoa m = Lib.decDigits m.natAbs ∧ sgn (Lib.itoa m) = 0) := by
  by_cases h : m < 0
  · have e : Lib.itoa m = 45 :: Lib.decDigits m.natAbs := by unfold Lib.itoa; rw [if_pos h]
    exact .inl ⟨h, e, by rw [e]; rfl⟩
  · have e : Lib.itoa m = Lib.decDigits m.natAbs := by unfold Lib.itoa; rw [if_neg h]; congr 1; omega
    refine .inr ⟨by omega, e, ?_⟩
    rw [e]
    unfold sgn
    cases hl : Lib.decDigits m.natAbs with
    | nil => exact absurd hl (dec_ne _)
    | cons b r =>
      have hb := dec_digit m.natAbs b (by rw [hl]; simp)
      rw [if_neg]
      simp only [List.head?_cons, Option.some.injEq]
      intro e; subst e; exact absurd hb.1 (by decide)
theorem not_digit {m : Int} {i : Nat} {b : UInt8} (h : (Lib.itoa m)[i]? = some b) (hb : ¬ (48 ≤ b.toNat ∧ b.toNat ≤ 57)) : i = 0 ∧ b = 45 := by
  rcases itoa_cases m with ⟨_, e, _⟩ | ⟨_, e, _⟩
  · rw [e] at h
    cases i with
    | zero => simp at h; exact ⟨rfl, h.symm⟩
    | succ i => exact absurd (dec_digit _ _ (List.mem_of_getElem? (by simpa using h))) hb
  · rw [e] at h
    exact absurd (dec_digit _ _ (List.mem_of_getElem? h)) hb
theorem parse_end {m : Int} {k : Nat} (h0 : -400000000 ≤ m) (h1 : m ≤ 400000000) (hk : Lib.decFrom 0 ((Lib.itoa m).drop (sgn (Lib.itoa m))) = some k) :
    1 ≤ (Lib.itoa m).length - sgn (Lib.itoa m) ∧ (Lib.itoa m).length - sgn (Lib.itoa m) ≤ 10 ∧ m = if sgn (Lib.itoa m) = 1 then -(k : Int) else k := by
  have hl := itoa_len10 h0 h1
  rcases itoa_cases m with ⟨hm, e, hs⟩ | ⟨hm, e, hs⟩
  · rw [hs] at hk ⊢
    rw [e] at hk hl ⊢
    simp only [List.drop_succ_cons, List.drop_zero, decFrom_dec, Option.some.injEq] at hk
    have : (Lib.decDigits m.natAbs).length ≠ 0 := fun h => dec_ne _ (List.length_eq_zero_iff.1 h)
    simp only [List.length_cons] at hl ⊢
    refine ⟨by omega, by omega, ?_⟩
    simp only [if_true]
    omega
  · rw [hs] at hk ⊢
    rw [e] at hk hl ⊢
    simp only [List.drop_zero, decFrom_dec, Option.some.injEq] at hk
    have : (Lib.decDigits m.natAbs).length ≠ 0 := fun h => dec_ne _ (List.length_eq_zero_iff.1 h)
    refine ⟨by omega, by omega, ?_⟩
    rw [if_neg (by decide)]
    omega
theorem take_drop_snoc {l : List UInt8} {i k : Nat} {b : UInt8} (h : l[i]? = some b) (hk : k ≤ i) : (l.take (i + 1)).drop k = (l.take i).drop k ++ [b] := by
  have hlt := (List.getElem?_eq_some_iff.1 h).1
  rw [List.take_add_one, h, List.drop_append_of_le_length (by simp; omega)]
  rfl

/-- Within the limit. -/
def isNum (x : Int) : Bool := decide (-400000000 ≤ x ∧ x ≤ 400000000)
theorem isNum_iff (x : Int) : isNum x = true ↔ -400000000 ≤ x ∧ x ≤ 400000000 := by simp [isNum]
set_option maxHeartbeats 400000 in
theorem spec_IsNumber (x : Int) (w : World) :
    Calls Tryd.prog 66 #[.int .i64 x] w fun e w' => e = .returned (.bool (isNum x)) ∧ w' = w := by
  go_enter Tryd.func66, Tryd.ntmps66
  go_wp2_with (go_at_call 27; refine (spec_In _ _ _ _).mono ?_; rintro e w1 ⟨rfl, rfl⟩)
  go_ret
  refine ⟨?_, rfl⟩
  simp [isNum]
set_option maxHeartbeats 400000 in
theorem impl_IsNumber (x : Int) (w : World) :
    Calls Tryd.prog 70 #[.int .i64 x] w fun e w' => e = .returned (.bool (isNum x)) ∧ w' = w := by
  by_cases h : -400000000 ≤ x
  · have c1 : decide (-400000000 ≤ x) = true := decide_eq_true h
    go_enter Tryd.func70, Tryd.ntmps70
    go_wp2
    go_ret
    refine ⟨?_, rfl⟩
    simp [isNum, h]
  · have c1 : decide (-400000000 ≤ x) = false := decide_eq_false h
    go_enter Tryd.func70, Tryd.ntmps70
    go_wp2
    go_ret
    refine ⟨?_, rfl⟩
    have : isNum x = false := by unfold isNum; exact decide_eq_false (by omega)
    simp [this]

theorem text_ne {a b : ByteArray} (h : a ≠ b) : (a.toList == b.toList) = false := by
  rw [beq_eq_false_iff_ne, Lib.toList_data, Lib.toList_data]
  intro e
  exact h (ByteArray.ext (Array.toList_inj.1 e))
/-- ParseInt's end. -/
def RetPI (s : ByteArray) (e : Ending) : Prop := ∃ n ok, e = .returned (.tuple #[.int .i64 n, .bool ok]) ∧ PInt s n ok
set_option maxHeartbeats 1000000 in
set_option maxRecDepth 100000 in
theorem spec_ParseInt (s : ByteArray) (hs : s.size ≤ 4000000000) (w : World) :
    Calls Tryd.prog 32 #[.string s] w fun e w' => RetPI s e ∧ w' = w := by
  have hlen : s.data.toList.length = s.size := by simp
  go_enter Tryd.func32, Tryd.ntmps32
  go_wp2
  go_loopg [4, 5, 6] s.size (fun kq v4 v5 v6 w' => ∃ (n d i : Nat), v4 = .int .i64 n ∧ v5 = .int .i64 d ∧ v6 = .int .i64 i ∧
    Hid0 (i + kq = s.size ∧ d = i - sgn s.data.toList ∧ d ≤ 12 ∧ n < 10 ^ d ∧ Lib.decFrom 0 ((s.data.toList.take i).drop (sgn s.data.toList)) = some n) ∧ w' = w)
  case atStart => exact ⟨0, 0, 0, rfl, rfl, rfl, ⟨by omega, by omega, by omega, by decide, by simp [Lib.decFrom]⟩, rfl⟩
  case round =>
    obtain ⟨n, d, i, rfl, rfl, rfl, ⟨hi, hd, hd12, hn, hdec⟩, rfl⟩ := hrel
    by_cases hlt : i < s.size ∧ d < 12
    · have hb1 : decide ((i : Int) < (s.size : Int)) = true := decide_eq_true (by omega)
      have hb2 : decide ((d : Int) < 12) = true := decide_eq_true (by omega)
      have p5 : (0 ≤ (i : Int)) = True := eq_true (by omega)
      have q5 : ((i : Int) < (s.size : Int)) = True := eq_true (by omega)
      have hsz : i < s.data.size := hlt.1
      have hdata : s.data.toList[i]? = some s.data[i] := by simp
      obtain ⟨b, hbyte⟩ : ∃ b : Int, ((s.data[i].toNat : Nat) : Int) = b := ⟨_, rfl⟩
      obtain ⟨k1, rfl⟩ : ∃ k1, gk = k1 + 1 := ⟨gk - 1, by omega⟩
      have hbx : ∀ h : i < s.size, ((s[i].toNat : Nat) : Int) = b := fun _ => hbyte
      have hbr : 0 ≤ b ∧ b ≤ 255 := by have := s.data[i].toNat_lt; omega
      have hA := Hid0.mk (And.intro hi (And.intro hd (And.intro hn (And.intro hdec (And.intro hdata (And.intro hbyte hbr))))))
      clear hi hd hn hdec hdata hbyte hbr
      by_cases h0 : i = 0 ∧ b = 45
      · obtain ⟨rfl, rfl⟩ := h0
        go_wp2
        go_roundg k1
        case measure => omega
        case rel =>
          obtain ⟨⟨hi, hd, hn, hdec, hdata, hbyte, hbr⟩⟩ := hA
          have hs1 : sgn s.data.toList = 1 := by
            unfold sgn
            rw [if_pos]
            have e45 : s.data[0] = 45 := by
              apply UInt8.toNat_inj.1
              have : (45 : UInt8).toNat = 45 := rfl
              omega
            rw [List.head?_eq_getElem?, hdata, e45]
          rw [hs1] at hd hdec ⊢
          simp [Lib.decFrom] at hdec hd
          subst hd
          subst hdec
          exact ⟨0, 0, 1, rfl, rfl, rfl, ⟨by omega, by omega, by omega, by decide, by simp [Lib.decFrom]⟩, rfl⟩
      · have hi45 : (((i : Int) == 0) = true ∧ (b == 45) = false) ∨ ((i : Int) == 0) = false := by
          by_cases hi0 : i = 0
          · subst hi0
            exact .inl ⟨rfl, beq_eq_false_iff_ne.mpr fun e => h0 ⟨rfl, e⟩⟩
          · exact .inr (beq_eq_false_iff_ne.mpr (by omega))
        by_cases hdig : 48 ≤ b ∧ b ≤ 57
        · have t1 : decide (b < 48) = false := decide_eq_false (by omega)
          have t2 : decide (57 < b) = false := decide_eq_false (by omega)
          have t3 : IntKind.u8.wrap (b - 48) = b - 48 := by unfold IntKind.wrap; simp [IntKind.bits, IntKind.signed]; omega
          have t4 : wrap64 (b - 48) = b - 48 := IntWalk.wrap64_in _ (by omega)
          have fin : Hid0 (∃ (n' d' i' : Nat), n' = n * 10 + (b - 48).toNat ∧ d' = d + 1 ∧ i' = i + 1 ∧ i' + k1 = s.size ∧ d' = i' - sgn s.data.toList ∧ d' ≤ 12 ∧ n' < 10 ^ d' ∧ Lib.decFrom 0 ((s.data.toList.take i').drop (sgn s.data.toList)) = some n') := by
            obtain ⟨⟨hi, hd, hn, hdec, hdata, hbyte, hbr⟩⟩ := hA
            have hsg : sgn s.data.toList ≤ i := by
              unfold sgn
              split
              · rename_i hh
                rcases hi45 with ⟨e1, e2⟩ | e1
                · have hi0 : i = 0 := by have := beq_iff_eq.mp e1; omega
                  subst hi0
                  rw [List.head?_eq_getElem?, hdata] at hh
                  have := Option.some.inj hh
                  rw [this] at hbyte
                  have := beq_eq_false_iff_ne.mp e2
                  exact absurd hbyte.symm this
                · have := beq_eq_false_iff_ne.mp e1
                  omega
              · exact Nat.zero_le _
            have hdv : Lib.digitVal s.data[i] = some (b - 48).toNat := by
              unfold Lib.digitVal
              rw [if_pos (by omega)]
              congr 1
              omega
            refine ⟨⟨_, _, _, rfl, rfl, rfl, by omega, by omega, by omega, ?_, ?_⟩⟩
            · rw [Nat.pow_succ]
              omega
            · rw [take_drop_snoc hdata hsg, decFrom_snoc, hdec]
              simp [hdv]
          have hn10 : (n : Int) < 1000000000000 := by
            obtain ⟨⟨hi, hd, hn, hdec, hdata, hbyte, hbr⟩⟩ := hA
            have h1 : 10 ^ d ≤ 10 ^ 12 := Nat.pow_le_pow_right (by decide) (by omega)
            have h2 : (10 : Nat) ^ 12 = 1000000000000 := by decide
            omega
          have t7 : wrap64 ((n : Int) * 10) = (n : Int) * 10 := IntWalk.wrap64_in _ (by omega)
          have t9 : (n : Int) * 10 + (b - 48) = ((n * 10 + (b - 48).toNat : Nat) : Int) := by omega
          have t8 : wrap64 ((n : Int) * 10 + (b - 48)) = (n : Int) * 10 + (b - 48) := IntWalk.wrap64_in _ (by omega)
          have t8' := Hid0.mk (And.intro t8 t9)
          clear t8 t9
          rcases hi45 with ⟨t5, t6⟩ | t5
          · go_wp2
            go_roundg k1
            case measure => omega
            case rel =>
              obtain ⟨⟨n', d', i', hn', hd', hi', g1, g2, g3, g4, g5⟩⟩ := fin
              refine ⟨n', d', i', ?_, ?_, ?_, ⟨g1, g2, g3, g4, g5⟩, rfl⟩
              · rw [hn', ← t8'.out.2, ← t8'.out.1]
              · subst hd'; rfl
              · subst hi'; rfl
          · go_wp2
            go_roundg k1
            case measure => omega
            case rel =>
              obtain ⟨⟨n', d', i', hn', hd', hi', g1, g2, g3, g4, g5⟩⟩ := fin
              refine ⟨n', d', i', ?_, ?_, ?_, ⟨g1, g2, g3, g4, g5⟩, rfl⟩
              · rw [hn', ← t8'.out.2, ← t8'.out.1]
              · subst hd'; rfl
              · subst hi'; rfl
        · have hno : PInt s 0 false := by
            obtain ⟨⟨hi, hd, hn, hdec, hdata, hbyte, hbr⟩⟩ := hA
            refine .inr ⟨rfl, rfl, fun m h1 h2 hm => ?_⟩
            subst hm
            rw [txt_list] at hdata
            have hnd := not_digit hdata (by omega)
            exact h0 ⟨hnd.1, by rw [← hbyte, hnd.2]; rfl⟩
          have hno' := Hid0.mk hno
          clear hno
          rcases hi45 with ⟨t5, t6⟩ | t5
          · by_cases hlow : b < 48
            · have t1 : decide (b < 48) = true := decide_eq_true hlow
              go_wp2
              go_ret2
              exact ⟨⟨0, false, rfl, hno'.out⟩, rfl⟩
            · have t1 : decide (b < 48) = false := decide_eq_false hlow
              have t2 : decide (57 < b) = true := decide_eq_true (by omega)
              go_wp2
              go_ret2
              exact ⟨⟨0, false, rfl, hno'.out⟩, rfl⟩
          · by_cases hlow : b < 48
            · have t1 : decide (b < 48) = true := decide_eq_true hlow
              go_wp2
              go_ret2
              exact ⟨⟨0, false, rfl, hno'.out⟩, rfl⟩
            · have t1 : decide (b < 48) = false := decide_eq_false hlow
              have t2 : decide (57 < b) = true := decide_eq_true (by omega)
              go_wp2
              go_ret2
              exact ⟨⟨0, false, rfl, hno'.out⟩, rfl⟩
    · have hend : Hid0 (∀ m : Int, -400000000 ≤ m → m ≤ 400000000 → txt m = s → 1 ≤ d ∧ d ≤ 10 ∧ m = if sgn s.data.toList = 1 then -(n : Int) else n) := by
        refine ⟨fun m h1 h2 hm => ?_⟩
        have hl10 := itoa_len10 h1 h2
        have hil : Lib.itoa m = s.data.toList := by rw [← hm, txt_list]
        have hsz : s.data.toList.length = s.size := hlen
        have hi2 : i = s.size := by rw [hil] at hl10; omega
        rw [List.take_of_length_le (by omega), ← hil] at hdec
        have := parse_end h1 h2 hdec
        rw [hil, hlen] at this
        rw [hd, hi2]
        exact this
      have hn10 : (n : Int) < 10000000000000 := by
        have h1 : 10 ^ d ≤ 10 ^ 12 := Nat.pow_le_pow_right (by decide) (by omega)
        have h2 : (10 : Nat) ^ 12 = 1000000000000 := by decide
        omega
      have hsgd : 0 < d → (0 < s.size) := fun h => by omega
      clear hi hdec hn
      have hlt' : (¬ i < s.size ∧ decide ((i : Int) < (s.size : Int)) = false) ∨ (i < s.size ∧ decide ((i : Int) < (s.size : Int)) = true ∧ (12 ≤ (d : Int)) ∧ decide ((d : Int) < 12) = false) := by
        by_cases h : i < s.size
        · exact .inr ⟨h, decide_eq_true (by omega), by omega, decide_eq_false (by omega)⟩
        · exact .inl ⟨h, decide_eq_false (by omega)⟩
      by_cases hd0 : d = 0
      · have f1 : decide ((d : Int) < 1) = true := decide_eq_true (by omega)
        have f2 : decide (0 < (d : Int)) = false := decide_eq_false (by omega)
        have hno : PInt s 0 false := .inr ⟨rfl, rfl, fun m h1 h2 hm => by have := hend.out m h1 h2 hm; omega⟩
        have hno' := Hid0.mk hno
        subst hd0
        clear hno hend hd hlt hd12 hn10 hsgd
        rcases hlt' with ⟨t0, t1⟩ | ⟨t0, t1, t3, t2⟩
        · go_wp2
          go_ret2
          exact ⟨⟨0, false, rfl, hno'.out⟩, rfl⟩
        · exact absurd t3 (by decide)
      · have f1 : decide ((d : Int) < 1) = false := decide_eq_false (by omega)
        have f2 : decide (0 < (d : Int)) = true := decide_eq_true (by omega)
        have hs0 : 0 < s.data.size := hsgd (by omega)
        have hs0n : 0 < s.size := hs0
        have hd0n : 0 < d := by omega
        have hd1n : ¬ (d : Int) < 1 := by omega
        have q0 : (0 < (s.size : Int)) = True := eq_true (by have : s.data.size = s.size := rfl
                                                             omega)
        obtain ⟨b, hbyte⟩ : ∃ b : Int, ((s.data[0].toNat : Nat) : Int) = b := ⟨_, rfl⟩
        have hbx : ∀ h : 0 < s.size, ((s[0].toNat : Nat) : Int) = b := fun _ => hbyte
        have hh : s.data.toList.head? = some s.data[0] := by
          rw [List.head?_eq_getElem?]
          simp
        clear hd hsgd
        by_cases hb45 : b = 45
        · have f3 : (b == 45) = true := beq_iff_eq.mpr hb45
          have hsg : sgn s.data.toList = 1 := by
            unfold sgn
            rw [if_pos]
            rw [hh]
            congr 1
            apply UInt8.toNat_inj.1
            have : (45 : UInt8).toNat = 45 := rfl
            omega
          have f4 : wrap64 (-(n : Int)) = -(n : Int) := IntWalk.wrap64_in _ (by omega)
          clear hbyte hh hb45
          rcases hlt' with ⟨t0, t1⟩ | ⟨t0, t1, t3, t2⟩
          · skip
            have hno : (¬ (d ≤ 10 ∧ isNum (-(n : Int)) = true ∧ txt (-(n : Int)) = s)) → PInt s 0 false := fun hc => by
              refine .inr ⟨rfl, rfl, fun m h1 h2 hm => ?_⟩
              obtain ⟨g1, g2, g3⟩ := hend.out m h1 h2 hm
              rw [hsg] at g3
              simp at g3
              subst g3
              exact hc ⟨g2, (isNum_iff _).mpr ⟨h1, h2⟩, hm⟩
            have hno' := Hid0.mk hno
            clear hno hend hlt hd12
            by_cases hd10 : 10 < d
            · have e1 : decide (10 < (d : Int)) = true := decide_eq_true (by omega)
              have hyes : Hid0 (PInt s 0 false) := ⟨hno'.out (fun hc => by omega)⟩
              clear hno' hn10
              have hd10i : 10 < (d : Int) := by omega
              go_wp2
              go_ret2
              exact ⟨⟨0, false, rfl, hyes.out⟩, rfl⟩
            · have e1 : decide (10 < (d : Int)) = false := decide_eq_false (by omega)
              have hd10i : ¬ 10 < (d : Int) := by omega
              by_cases hnum : isNum (-(n : Int)) = true
              · have kN := spec_IsNumber (-(n : Int))
                have kF := spec_FormatInt (-(n : Int)) (by omega) (by omega)
                have hnr := (isNum_iff _).mp hnum
                rw [hnum] at kN
                change ∀ w, Calls Tryd.prog 28 #[.int .i64 (-(n : Int))] w fun e w' => e = .returned (.string (txt (-(n : Int)))) ∧ w' = w at kF
                obtain ⟨T, hT⟩ : ∃ T, txt (-(n : Int)) = T := ⟨_, rfl⟩
                rw [hT] at kF hno'
                have hT' := Hid0.mk hT
                clear hT
                by_cases hTs : T = s
                · have e2 : (T.toList == s.toList) = true := by rw [hTs]; exact beq_self_eq_true _
                  have hyes : Hid0 (PInt s (-(n : Int)) true) := ⟨PInt.some_of hnr.1 hnr.2 (hT'.out.trans hTs)⟩
                  clear hTs hno' hnr hn10
                  go_wp2_with (first | (go_at_call 66; refine (kN _).mono ?_; rintro e w1 ⟨rfl, rfl⟩) | (go_at_call 28; refine (kF _).mono ?_; rintro e w1 ⟨rfl, rfl⟩))
                  go_ret2
                  exact ⟨⟨_, true, rfl, hyes.out⟩, rfl⟩
                · have e2 : (T.toList == s.toList) = false := text_ne hTs
                  have hyes : Hid0 (PInt s 0 false) := ⟨hno'.out (fun hc => hTs hc.2.2)⟩
                  clear hTs hno' hnr hn10
                  go_wp2_with (first | (go_at_call 66; refine (kN _).mono ?_; rintro e w1 ⟨rfl, rfl⟩) | (go_at_call 28; refine (kF _).mono ?_; rintro e w1 ⟨rfl, rfl⟩))
                  go_ret2
                  exact ⟨⟨_, false, rfl, hyes.out⟩, rfl⟩
              · have kN := spec_IsNumber (-(n : Int))
                rw [Bool.eq_false_iff.mpr hnum] at kN
                have hyes : Hid0 (PInt s 0 false) := ⟨hno'.out (fun hc => hnum hc.2.1)⟩
                clear hno' hnum hn10
                go_wp2_with (go_at_call 66; refine (kN _).mono ?_; rintro e w1 ⟨rfl, rfl⟩)
                go_ret2
                exact ⟨⟨_, false, rfl, hyes.out⟩, rfl⟩
          · skip
            have hno : (¬ (d ≤ 10 ∧ isNum (-(n : Int)) = true ∧ txt (-(n : Int)) = s)) → PInt s 0 false := fun hc => by
              refine .inr ⟨rfl, rfl, fun m h1 h2 hm => ?_⟩
              obtain ⟨g1, g2, g3⟩ := hend.out m h1 h2 hm
              rw [hsg] at g3
              simp at g3
              subst g3
              exact hc ⟨g2, (isNum_iff _).mpr ⟨h1, h2⟩, hm⟩
            have hno' := Hid0.mk hno
            clear hno hend hlt hd12
            by_cases hd10 : 10 < d
            · have e1 : decide (10 < (d : Int)) = true := decide_eq_true (by omega)
              have hyes : Hid0 (PInt s 0 false) := ⟨hno'.out (fun hc => by omega)⟩
              clear hno' hn10
              have hd10i : 10 < (d : Int) := by omega
              go_wp2
              go_ret2
              exact ⟨⟨0, false, rfl, hyes.out⟩, rfl⟩
            · have e1 : decide (10 < (d : Int)) = false := decide_eq_false (by omega)
              have hd10i : ¬ 10 < (d : Int) := by omega
              by_cases hnum : isNum (-(n : Int)) = true
              · have kN := spec_IsNumber (-(n : Int))
                have kF := spec_FormatInt (-(n : Int)) (by omega) (by omega)
                have hnr := (isNum_iff _).mp hnum
                rw [hnum] at kN
                change ∀ w, Calls Tryd.prog 28 #[.int .i64 (-(n : Int))] w fun e w' => e = .returned (.string (txt (-(n : Int)))) ∧ w' = w at kF
                obtain ⟨T, hT⟩ : ∃ T, txt (-(n : Int)) = T := ⟨_, rfl⟩
                rw [hT] at kF hno'
                have hT' := Hid0.mk hT
                clear hT
                by_cases hTs : T = s
                · have e2 : (T.toList == s.toList) = true := by rw [hTs]; exact beq_self_eq_true _
                  have hyes : Hid0 (PInt s (-(n : Int)) true) := ⟨PInt.some_of hnr.1 hnr.2 (hT'.out.trans hTs)⟩
                  clear hTs hno' hnr hn10
                  go_wp2_with (first | (go_at_call 66; refine (kN _).mono ?_; rintro e w1 ⟨rfl, rfl⟩) | (go_at_call 28; refine (kF _).mono ?_; rintro e w1 ⟨rfl, rfl⟩))
                  go_ret2
                  exact ⟨⟨_, true, rfl, hyes.out⟩, rfl⟩
                · have e2 : (T.toList == s.toList) = false := text_ne hTs
                  have hyes : Hid0 (PInt s 0 false) := ⟨hno'.out (fun hc => hTs hc.2.2)⟩
                  clear hTs hno' hnr hn10
                  go_wp2_with (first | (go_at_call 66; refine (kN _).mono ?_; rintro e w1 ⟨rfl, rfl⟩) | (go_at_call 28; refine (kF _).mono ?_; rintro e w1 ⟨rfl, rfl⟩))
                  go_ret2
                  exact ⟨⟨_, false, rfl, hyes.out⟩, rfl⟩
              · have kN := spec_IsNumber (-(n : Int))
                rw [Bool.eq_false_iff.mpr hnum] at kN
                have hyes : Hid0 (PInt s 0 false) := ⟨hno'.out (fun hc => hnum hc.2.1)⟩
                clear hno' hnum hn10
                go_wp2_with (go_at_call 66; refine (kN _).mono ?_; rintro e w1 ⟨rfl, rfl⟩)
                go_ret2
                exact ⟨⟨_, false, rfl, hyes.out⟩, rfl⟩
        · have f3 : (b == 45) = false := beq_eq_false_iff_ne.mpr hb45
          have hsg : sgn s.data.toList = 0 := by
            unfold sgn
            rw [if_neg]
            rw [hh]
            intro e
            have := Option.some.inj e
            rw [this] at hbyte
            exact hb45 hbyte.symm
          clear hbyte hh hb45
          rcases hlt' with ⟨t0, t1⟩ | ⟨t0, t1, t3, t2⟩
          · skip
            have hno : (¬ (d ≤ 10 ∧ isNum ((n : Int)) = true ∧ txt ((n : Int)) = s)) → PInt s 0 false := fun hc => by
              refine .inr ⟨rfl, rfl, fun m h1 h2 hm => ?_⟩
              obtain ⟨g1, g2, g3⟩ := hend.out m h1 h2 hm
              rw [hsg] at g3
              simp at g3
              subst g3
              exact hc ⟨g2, (isNum_iff _).mpr ⟨h1, h2⟩, hm⟩
            have hno' := Hid0.mk hno
            clear hno hend hlt hd12
            by_cases hd10 : 10 < d
            · have e1 : decide (10 < (d : Int)) = true := decide_eq_true (by omega)
              have hyes : Hid0 (PInt s 0 false) := ⟨hno'.out (fun hc => by omega)⟩
              clear hno' hn10
              have hd10i : 10 < (d : Int) := by omega
              go_wp2
              go_ret2
              exact ⟨⟨0, false, rfl, hyes.out⟩, rfl⟩
            · have e1 : decide (10 < (d : Int)) = false := decide_eq_false (by omega)
              have hd10i : ¬ 10 < (d : Int) := by omega
              by_cases hnum : isNum ((n : Int)) = true
              · have kN := spec_IsNumber ((n : Int))
                have kF := spec_FormatInt ((n : Int)) (by omega) (by omega)
                have hnr := (isNum_iff _).mp hnum
                rw [hnum] at kN
                change ∀ w, Calls Tryd.prog 28 #[.int .i64 ((n : Int))] w fun e w' => e = .returned (.string (txt ((n : Int)))) ∧ w' = w at kF
                obtain ⟨T, hT⟩ : ∃ T, txt ((n : Int)) = T := ⟨_, rfl⟩
                rw [hT] at kF hno'
                have hT' := Hid0.mk hT
                clear hT
                by_cases hTs : T = s
                · have e2 : (T.toList == s.toList) = true := by rw [hTs]; exact beq_self_eq_true _
                  have hyes : Hid0 (PInt s ((n : Int)) true) := ⟨PInt.some_of hnr.1 hnr.2 (hT'.out.trans hTs)⟩
                  clear hTs hno' hnr hn10
                  go_wp2_with (first | (go_at_call 66; refine (kN _).mono ?_; rintro e w1 ⟨rfl, rfl⟩) | (go_at_call 28; refine (kF _).mono ?_; rintro e w1 ⟨rfl, rfl⟩))
                  go_ret2
                  exact ⟨⟨_, true, rfl, hyes.out⟩, rfl⟩
                · have e2 : (T.toList == s.toList) = false := text_ne hTs
                  have hyes : Hid0 (PInt s 0 false) := ⟨hno'.out (fun hc => hTs hc.2.2)⟩
                  clear hTs hno' hnr hn10
                  go_wp2_with (first | (go_at_call 66; refine (kN _).mono ?_; rintro e w1 ⟨rfl, rfl⟩) | (go_at_call 28; refine (kF _).mono ?_; rintro e w1 ⟨rfl, rfl⟩))
                  go_ret2
                  exact ⟨⟨_, false, rfl, hyes.out⟩, rfl⟩
              · have kN := spec_IsNumber ((n : Int))
                rw [Bool.eq_false_iff.mpr hnum] at kN
                have hyes : Hid0 (PInt s 0 false) := ⟨hno'.out (fun hc => hnum hc.2.1)⟩
                clear hno' hnum hn10
                go_wp2_with (go_at_call 66; refine (kN _).mono ?_; rintro e w1 ⟨rfl, rfl⟩)
                go_ret2
                exact ⟨⟨_, false, rfl, hyes.out⟩, rfl⟩
          · skip
            have hno : (¬ (d ≤ 10 ∧ isNum ((n : Int)) = true ∧ txt ((n : Int)) = s)) → PInt s 0 false := fun hc => by
              refine .inr ⟨rfl, rfl, fun m h1 h2 hm => ?_⟩
              obtain ⟨g1, g2, g3⟩ := hend.out m h1 h2 hm
              rw [hsg] at g3
              simp at g3
              subst g3
              exact hc ⟨g2, (isNum_iff _).mpr ⟨h1, h2⟩, hm⟩
            have hno' := Hid0.mk hno
            clear hno hend hlt hd12
            by_cases hd10 : 10 < d
            · have e1 : decide (10 < (d : Int)) = true := decide_eq_true (by omega)
              have hyes : Hid0 (PInt s 0 false) := ⟨hno'.out (fun hc => by omega)⟩
              clear hno' hn10
              have hd10i : 10 < (d : Int) := by omega
              go_wp2
              go_ret2
              exact ⟨⟨0, false, rfl, hyes.out⟩, rfl⟩
            · have e1 : decide (10 < (d : Int)) = false := decide_eq_false (by omega)
              have hd10i : ¬ 10 < (d : Int) := by omega
              by_cases hnum : isNum ((n : Int)) = true
              · have kN := spec_IsNumber ((n : Int))
                have kF := spec_FormatInt ((n : Int)) (by omega) (by omega)
                have hnr := (isNum_iff _).mp hnum
                rw [hnum] at kN
                change ∀ w, Calls Tryd.prog 28 #[.int .i64 ((n : Int))] w fun e w' => e = .returned (.string (txt ((n : Int)))) ∧ w' = w at kF
                obtain ⟨T, hT⟩ : ∃ T, txt ((n : Int)) = T := ⟨_, rfl⟩
                rw [hT] at kF hno'
                have hT' := Hid0.mk hT
                clear hT
                by_cases hTs : T = s
                · have e2 : (T.toList == s.toList) = true := by rw [hTs]; exact beq_self_eq_true _
                  have hyes : Hid0 (PInt s ((n : Int)) true) := ⟨PInt.some_of hnr.1 hnr.2 (hT'.out.trans hTs)⟩
                  clear hTs hno' hnr hn10
                  go_wp2_with (first | (go_at_call 66; refine (kN _).mono ?_; rintro e w1 ⟨rfl, rfl⟩) | (go_at_call 28; refine (kF _).mono ?_; rintro e w1 ⟨rfl, rfl⟩))
                  go_ret2
                  exact ⟨⟨_, true, rfl, hyes.out⟩, rfl⟩
                · have e2 : (T.toList == s.toList) = false := text_ne hTs
                  have hyes : Hid0 (PInt s 0 false) := ⟨hno'.out (fun hc => hTs hc.2.2)⟩
                  clear hTs hno' hnr hn10
                  go_wp2_with (first | (go_at_call 66; refine (kN _).mono ?_; rintro e w1 ⟨rfl, rfl⟩) | (go_at_call 28; refine (kF _).mono ?_; rintro e w1 ⟨rfl, rfl⟩))
                  go_ret2
                  exact ⟨⟨_, false, rfl, hyes.out⟩, rfl⟩
              · have kN := spec_IsNumber ((n : Int))
                rw [Bool.eq_false_iff.mpr hnum] at kN
                have hyes : Hid0 (PInt s 0 false) := ⟨hno'.out (fun hc => hnum hc.2.1)⟩
                clear hno' hnum hn10
                go_wp2_with (go_at_call 66; refine (kN _).mono ?_; rintro e w1 ⟨rfl, rfl⟩)
                go_ret2
                exact ⟨⟨_, false, rfl, hyes.out⟩, rfl⟩
end Go.Proofs.YtjhcdndmbilogaaDoor
