/-
  THE WALKS OF laws.FnExactEntryOf: it returns true, whatever the number and the line, where the library's table of powers of ten lies as its text lays it: impl.EntryOf and spec.EntryOf give the same string.
  CONDITIONS: the table (Tab); none on the arguments.
-/
import Derived.Test.YtjhcdndmbilogaaDoorShelf
import Derived.Below
import Derived.Deep.Draws
import Derived.Tactics
import Derived.WalkKit
import Derived.KernelRfl
import Derived.RowKit3
import Derived.Deep.LoopGhost
import Derived.Deep.QuietTactic
import Derived.BigQuiet
import Derived.Deep.DeepCutAuto
import Derived.Deep.CutBlock
import Derived.OrdersHeld
import Derived.Laws.BitsLemmas
import Derived.RowKit
import Derived.Lib.ItoaNum
namespace Go.Proofs.YtjhcdndmbilogaaDoor
open Go.RowKit Go.Shelf
set_option linter.unusedVariables false
set_option linter.unusedSimpArgs false

/-- A fact that the walk's simp leaves alone. -/
structure Hid0 (p : Prop) : Prop where mk :: (out : p)
/-- The same world but for draws. -/
structure Drew (w w' : World) : Prop where mk :: (out : ∃ n, w' = w.drewN n)
theorem Drew.refl (w : World) : Drew w w := ⟨⟨0, rfl⟩⟩
theorem Drew.step {w w' : World} (h : Drew w w') (n : Nat) : Drew w (w'.drewN n) := by
  obtain ⟨m, rfl⟩ := h
  exact ⟨⟨m + n, World.drewN_drewN ..⟩⟩
theorem Drew.below {w w' : World} (h : Drew w w') : Below w.heap.size w w' := by
  obtain ⟨n, rfl⟩ := h
  induction n with
  | zero => exact Below.refl _ _
  | succ n ih => rw [← World.drew_drewN]; exact ih.drew

/-- The table of powers of ten. -/
def Tab (w : World) : Prop := Lib.TabIs Tryd.prog w "internal/strconv.uint64pow10" .u64 Lib.pow10Tab

theorem tab_below {w w' : World} (h : Tab w) (hb : Below w.heap.size w w') : Tab w' := by
  unfold Tab Lib.TabIs World.var? at h ⊢
  cases hg : Tryd.prog.globalNamed "internal/strconv.uint64pow10" with
  | none => rw [hg] at h; cases h
  | some g =>
    rw [hg] at h
    try rw [hg]
    simp only [Option.bind_some] at h ⊢
    have hlt : g < w.heap.size := by
      rcases Nat.lt_or_ge g w.heap.size with h' | h'
      · exact h'
      · rw [Array.getElem?_eq_none h'] at h; cases h
    rw [hb.block g hlt]
    exact h
theorem below_grow (w : World) (k : Nat) (os : Array Obj) : Below w.heap.size w (Sort.grow (w.drewN k) os) := by
  refine ⟨rfl, rfl, rfl, by simp [Sort.grow], fun b hb => ?_⟩
  simp [Sort.grow, Array.getElem?_append, hb]

set_option maxHeartbeats 1000000 in
theorem impl_FormatInt (n : Int) (h0 : -9223372036854775808 ≤ n) (h1 : n ≤ 9223372036854775807) (w : World) (ht : Tab w) :
    Calls Tryd.prog 30 #[.int .i64 n] w fun e w' => e = .returned (.string ⟨(Lib.itoa n).toArray⟩) ∧ Below w.heap.size w w' := by
  go_enter Tryd.func30, Tryd.ntmps30
  go_wp2_with (go_at_call 65; refine (Tryd.strconv_Itoa n h0 h1 _ ht).mono ?_; rintro e w' ⟨rfl, k, os, rfl⟩)
  go_ret
  exact ⟨rfl, below_grow _ _ _⟩

/-- The check of an entry. -/
def chk : Int → List UInt8 → Int
  | c, [] => c
  | c, b :: l => chk (Int.tmod (31 * c + (b.toNat : Int)) 9973) l
theorem chk_step {c : Int} (h0 : 0 ≤ c) (h1 : c ≤ 9972) (b : UInt8) : 0 ≤ Int.tmod (31 * c + (b.toNat : Int)) 9973 ∧ Int.tmod (31 * c + (b.toNat : Int)) 9973 ≤ 9972 := by
  have h : 0 ≤ 31 * c + (b.toNat : Int) := by have := Int.natCast_nonneg b.toNat; omega
  rw [Int.tmod_eq_emod_of_nonneg h]
  omega
theorem chk_bound : ∀ (l : List UInt8) (c : Int), 0 ≤ c → c ≤ 9972 → 0 ≤ chk c l ∧ chk c l ≤ 9972
  | [], c, h0, h1 => ⟨h0, h1⟩
  | b :: l, c, h0, h1 => chk_bound l _ (chk_step h0 h1 b).1 (chk_step h0 h1 b).2
theorem drop_byte {s : ByteArray} {i : Nat} (h : i < s.size) : s.data.toList.drop i = s.data[i] :: s.data.toList.drop (i + 1) := by
  rw [List.drop_eq_getElem_cons (by simpa using h)]
  simp
/-- The entry of a line. -/
def entry (n : Int) (s : ByteArray) : ByteArray :=
  (((⟨(Lib.itoa n).toArray⟩ ++ ⟨#[58]⟩) ++ s) ++ ⟨#[58]⟩) ++ ⟨(Lib.itoa (chk n s.data.toList)).toArray⟩

theorem dec_len (u : Nat) : (Lib.decDigits u).length ≤ u + 1 := by
  induction u using Nat.strongRecOn with
  | _ u ih =>
    rw [Lib.decDigits]
    split
    · simp
    · have := ih (u / 10) (by omega)
      simp
      omega
theorem itoa_len {n : Int} (h0 : 0 ≤ n) (h1 : n ≤ 9972) : (⟨(Lib.itoa n).toArray⟩ : ByteArray).size ≤ 9973 := by
  have := dec_len n.toNat
  unfold Lib.itoa
  rw [if_neg (by omega)]
  simp [ByteArray.size]
  omega
theorem add_size (a b : ByteArray) : (a ++ b).size = a.size + b.size := ByteArray.size_append

set_option maxHeartbeats 4000000 in
set_option maxRecDepth 100000 in
theorem impl_EntryOf_in (n : Int) (s : ByteArray) (h0 : 0 ≤ n) (h1 : n ≤ 40) (hs : s.size ≤ 2000) (w : World) (ht : Tab w) :
    Calls Tryd.prog 8 #[.int .i64 n, .string s] w fun e w' => e = .returned (.string (entry n s)) ∧ Below w.heap.size w w' := by
  have c1 : decide (n < 0) = false := decide_eq_false (by omega)
  have c2 : decide (40 < n) = false := decide_eq_false (by omega)
  have c3 : decide (2000 < (s.size : Int)) = false := decide_eq_false (by omega)
  have hA := itoa_len h0 (by omega : n ≤ 9972)
  have hck := chk_bound s.data.toList n h0 (by omega)
  have hB := itoa_len hck.1 hck.2
  unfold entry
  have kA := impl_FormatInt n (by omega) (by omega)
  have kB := impl_FormatInt (chk n s.data.toList) (by omega) (by omega)
  generalize (⟨(Lib.itoa n).toArray⟩ : ByteArray) = A at hA kA ⊢
  generalize (⟨(Lib.itoa (chk n s.data.toList)).toArray⟩ : ByteArray) = B at hB kB ⊢
  go_enter Tryd.func8, Tryd.ntmps8
  go_wp2
  go_loopg [5, 6] s.size (fun kq v5 v6 w' => ∃ (c : Int) (i : Nat), v5 = .int .i64 c ∧ v6 = .int .i64 i ∧ Hid0 (i + kq = s.size ∧ 0 ≤ c ∧ c ≤ 9972 ∧ chk c (s.data.toList.drop i) = chk n s.data.toList) ∧ w' = w)
  case atStart => exact ⟨n, 0, rfl, rfl, ⟨by omega, h0, by omega, rfl⟩, rfl⟩
  case round =>
    obtain ⟨c, i, rfl, rfl, ⟨hi, hc0, hc1, hch⟩, rfl⟩ := hrel
    by_cases hlt : i < s.size
    · have hb : decide ((i : Int) < (s.size : Int)) = true := decide_eq_true (by omega)
      obtain ⟨k1, rfl⟩ : ∃ k1, gk = k1 + 1 := ⟨gk - 1, by omega⟩
      have p5 : (0 ≤ (i : Int)) = True := eq_true (by omega)
      have q5 : ((i : Int) < (s.size : Int)) = True := eq_true (by omega)
      go_wp2
      go_roundg k1
      case measure => omega
      case rel =>
        rw [drop_byte hlt] at hch
        have hbt := s.data[i].toNat_lt
        have e1 : wrap64 (31 * c + wrap64 ((s[i].toNat : Nat) : Int)) = 31 * c + ((s.data[i].toNat : Nat) : Int) := by
          have : s[i] = s.data[i] := rfl
          rw [this]
          unfold wrap64
          omega
        have e2 := chk_step hc0 hc1 s.data[i]
        refine ⟨_, i + 1, rfl, ?_, ⟨by omega, ?_, ?_, ?_⟩, rfl⟩
        · congr 1
        · rw [e1]; exact e2.1
        · rw [e1]; exact e2.2
        · rw [e1]; exact hch
    · have hb : decide ((i : Int) < (s.size : Int)) = false := decide_eq_false (by omega)
      have he : c = chk n s.data.toList := by rw [← hch, List.drop_eq_nil_of_le (by simp; omega)]; rfl
      subst he
      clear hch
      have l1 : ¬ 9223372036854775807 < A.size + 1 := by omega
      have l2 : ¬ 9223372036854775807 < A.size + 1 + s.size := by omega
      have l3 : ¬ 9223372036854775807 < A.size + 1 + s.size + 1 := by omega
      have l4 : ¬ 9223372036854775807 < A.size + 1 + s.size + 1 + B.size := by omega
      go_wp2_with (first | (go_at_call 30; refine (kA _ ht).mono ?_; rintro e w1 ⟨rfl, hb1⟩) | (go_at_call 30; refine (kB _ (tab_below ht hb1)).mono ?_; rintro e w2 ⟨rfl, hb2⟩))
      go_ret
      exact ⟨rfl, hb1.trans (hb2.mono hb1.size)⟩

set_option maxHeartbeats 4000000 in
set_option maxRecDepth 100000 in
theorem impl_EntryOf_out (n : Int) (s : ByteArray) (h : ¬ (0 ≤ n ∧ n ≤ 40 ∧ s.size ≤ 2000)) (w : World) :
    Calls Tryd.prog 8 #[.int .i64 n, .string s] w fun e w' => e = .returned (.string ⟨#[]⟩) ∧ Below w.heap.size w w' := by
  by_cases h0 : n < 0
  · have c1 : decide (n < 0) = true := decide_eq_true h0
    go_enter Tryd.func8, Tryd.ntmps8
    go_wp2
    go_ret
    exact ⟨rfl, Below.refl _ _⟩
  · have c1 : decide (n < 0) = false := decide_eq_false h0
    by_cases h1 : 40 < n
    · have c2 : decide (40 < n) = true := decide_eq_true h1
      go_enter Tryd.func8, Tryd.ntmps8
      go_wp2
      go_ret
      exact ⟨rfl, Below.refl _ _⟩
    · have c2 : decide (40 < n) = false := decide_eq_false h1
      have c3 : decide (2000 < (s.size : Int)) = true := decide_eq_true (by omega)
      go_enter Tryd.func8, Tryd.ntmps8
      go_wp2
      go_ret
      exact ⟨rfl, Below.refl _ _⟩

/-- The digits of a number; none of 0. -/
def digs (u : Nat) : List UInt8 := if h : u = 0 then [] else digs (u / 10) ++ [UInt8.ofNat (48 + u % 10)]
  termination_by u
  decreasing_by omega
theorem digs_len (u : Nat) : (digs u).length ≤ u := by
  induction u using Nat.strongRecOn with
  | _ u ih =>
    rw [digs]
    split
    · simp
    · have := ih (u / 10) (by omega)
      simp
      omega
theorem digs_dec (u : Nat) (h : u ≠ 0) : digs u = Lib.decDigits u := by
  induction u using Nat.strongRecOn with
  | _ u ih =>
    rw [digs, dif_neg h, Lib.decDigits]
    split
    · rename_i h1
      rw [show u / 10 = 0 by omega, show u % 10 = u by omega, digs, dif_pos rfl]
      rfl
    · rw [ih (u / 10) (by omega) (by omega)]
theorem digit_at : ∀ j : Fin 10, ((⟨#[48, 49, 50, 51, 52, 53, 54, 55, 56, 57]⟩ : ByteArray).extract j.val (j.val + 1)).data.toList = [UInt8.ofNat (48 + j.val)] := by decide +kernel
theorem digit_at' (j : Nat) (h : j < 10) : (⟨#[48, 49, 50, 51, 52, 53, 54, 55, 56, 57]⟩ : ByteArray).extract j (j + 1) = ⟨#[UInt8.ofNat (48 + j)]⟩ := by
  have := digit_at ⟨j, h⟩
  apply ByteArray.ext
  apply Array.toList_inj.1
  simpa using this

set_option maxHeartbeats 400000 in
set_option maxRecDepth 100000 in
theorem spec_FormatInt (n : Int) (h0 : -4000000000000000000 ≤ n) (h1 : n ≤ 4000000000000000000) (w : World) :
    Calls Tryd.prog 28 #[.int .i64 n] w fun e w' => e = .returned (.string ⟨(Lib.itoa n).toArray⟩) ∧ w' = w := by
  go_enter Tryd.func28, Tryd.ntmps28
  go_wp2
  go_loopg [3, 4] n.natAbs (fun kq v3 v4 w' => ∃ (s : ByteArray) (x : Int), v3 = .string s ∧ v4 = .int .i64 x ∧ Hid0 (kq = x.natAbs ∧ x.natAbs ≤ n.natAbs ∧ (n < 0 → x ≤ 0) ∧ (0 ≤ n → 0 ≤ x) ∧ digs x.natAbs ++ s.data.toList = digs n.natAbs) ∧ w' = w)
  case atStart => exact ⟨⟨#[]⟩, n, rfl, rfl, ⟨rfl, by omega, by omega, by omega, by simp⟩, rfl⟩
  case round =>
    obtain ⟨s, x, rfl, rfl, ⟨rfl, hle, hn, hp, hd⟩, rfl⟩ := hrel
    have hsz : s.size ≤ n.natAbs := by
      have h1 := congrArg List.length hd
      have h2 := digs_len n.natAbs
      have h3 : s.data.toList.length = s.size := by simp
      simp only [List.length_append] at h1
      omega
    by_cases hx : x = 0
    · have b1 : (x == 0) = true := beq_iff_eq.mpr hx
      have b2 : (x != 0) = false := bne_eq_false_iff_eq.mpr hx
      subst hx
      have hs : Hid0 (s = ⟨(digs n.natAbs).toArray⟩) := by
        refine ⟨?_⟩
        apply ByteArray.ext
        rw [← hd, Int.natAbs_zero, digs, dif_pos rfl]
        simp
      clear hd
      by_cases hn0 : n = 0
      · subst hn0
        go_wp2
        go_ret
        exact ⟨by unfold Lib.itoa; rw [if_neg (by decide), show Int.toNat 0 = 0 from rfl, Lib.decDigits, dif_pos (by decide)]; rfl, rfl⟩
      · have b3 : (n == 0) = false := beq_eq_false_iff_ne.mpr hn0
        have b4 : (n != 0) = true := bne_iff_ne.mpr hn0
        by_cases hneg : n < 0
        · have b5 : decide (n < 0) = true := decide_eq_true hneg
          have b6 : (9223372036854775807 < 1 + s.size) = False := eq_false (by omega)
          go_wp2
          go_ret
          refine ⟨?_, rfl⟩
          rw [hs.out]
          unfold Lib.itoa
          rw [if_pos hneg, digs_dec _ (by omega)]
          congr 2
        · have b5 : decide (n < 0) = false := decide_eq_false hneg
          go_wp2
          go_ret
          refine ⟨?_, rfl⟩
          show Ending.returned (.string s) = _
          rw [hs.out]
          unfold Lib.itoa
          rw [if_neg (by omega), digs_dec _ (by omega), show n.natAbs = n.toNat by omega]
    · have b1 : (x == 0) = false := beq_eq_false_iff_ne.mpr hx
      have b2 : (x != 0) = true := bne_iff_ne.mpr hx
      have hj10 : x.natAbs % 10 < 10 := Nat.mod_lt _ (by decide)
      have hext := digit_at' (x.natAbs % 10) hj10
      have hd' := hd
      rw [digs, dif_neg (by omega)] at hd'
      have hq : (x.tdiv 10).natAbs = x.natAbs / 10 := by rw [Int.natAbs_tdiv]; rfl
      have hqp : 0 ≤ n → 0 ≤ x.tdiv 10 := fun h => Int.tdiv_nonneg (hp h) (by decide)
      have hqn : n < 0 → x.tdiv 10 ≤ 0 := fun h => by
        have h1 := Int.tdiv_nonneg (a := -x) (b := 10) (by have := hn h; omega) (by decide)
        rw [Int.neg_tdiv] at h1
        omega
      have b7 : (9223372036854775807 < 1 + s.size) = False := eq_false (by omega)
      have hmod : (x.tmod 10).natAbs = x.natAbs % 10 := by rw [Int.natAbs_tmod]; rfl
      generalize hj : x.natAbs % 10 = j at hj10 hext hd' hmod
      have hr1 : -9223372036854775808 ≤ x.tdiv 10 ∧ x.tdiv 10 ≤ 9223372036854775807 := by omega
      have hr2 : -9223372036854775808 ≤ (j : Int) + 1 ∧ (j : Int) + 1 ≤ 9223372036854775807 := by omega
      have p1 : (0 ≤ (j : Int)) = True := eq_true (by omega)
      have p2 : ((j : Int) ≤ (j : Int) + 1) = True := eq_true (by omega)
      have p3 : ((j : Int) + 1 ≤ 10) = True := eq_true (by omega)
      have hlt : x.natAbs / 10 < x.natAbs := by omega
      have hle2 : x.natAbs / 10 ≤ n.natAbs := by omega
      have b8 : (9223372036854775807 < min (j + 1) 10 - j + s.size) = False := eq_false (by omega)
      have hA := Hid0.mk (And.intro hext (And.intro hd' (And.intro hq (And.intro hqn (And.intro hqp (And.intro hlt hle2))))))
      by_cases hneg : x.tmod 10 < 0
      · have b5 : decide (x.tmod 10 < 0) = true := decide_eq_true hneg
        have hmj : -(x.tmod 10) = (j : Int) := by omega
        have hm : wrap64 (-(x.tmod 10)) = (j : Int) := by rw [hmj]; exact IntWalk.wrap64_in _ (by omega)
        have hw2 : wrap64 (x.tdiv 10) = x.tdiv 10 := IntWalk.wrap64_in _ hr1
        have hm1 : wrap64 ((j : Int) + 1) = (j : Int) + 1 := IntWalk.wrap64_in _ hr2
        clear hext hd' hq hqn hqp hd hmod hmj hr1 hr2 hj hj10 hle hn hp hsz hlt hle2
        go_wp2
        go_roundg (x.natAbs / 10)
        case measure => exact hA.out.2.2.2.2.2.1
        case rel =>
          obtain ⟨⟨hext, hd', hq, hqn, hqp, hlt, hle2⟩⟩ := hA
          refine ⟨_, x.tdiv 10, rfl, ?_, ⟨hq.symm, by omega, hqn, hqp, ?_⟩, rfl⟩
          · first | rfl | (rw [hw2])
          · rw [hext, hq, ← hd']
            simp
      · have b5 : decide (x.tmod 10 < 0) = false := decide_eq_false hneg
        have hm : x.tmod 10 = (j : Int) := by omega
        have hw2 : wrap64 (x.tdiv 10) = x.tdiv 10 := IntWalk.wrap64_in _ hr1
        have hm1 : wrap64 ((j : Int) + 1) = (j : Int) + 1 := IntWalk.wrap64_in _ hr2
        clear hext hd' hq hqn hqp hd hmod hr1 hr2 hj hj10 hle hn hp hsz hlt hle2
        go_wp2
        go_roundg (x.natAbs / 10)
        case measure => exact hA.out.2.2.2.2.2.1
        case rel =>
          obtain ⟨⟨hext, hd', hq, hqn, hqp, hlt, hle2⟩⟩ := hA
          refine ⟨_, x.tdiv 10, rfl, ?_, ⟨hq.symm, by omega, hqn, hqp, ?_⟩, rfl⟩
          · first | rfl | (rw [hw2])
          · rw [hext, hq, ← hd']
            simp

set_option maxHeartbeats 400000 in
set_option maxRecDepth 100000 in
theorem spec_Check (n : Int) (s : ByteArray) (h0 : 0 ≤ n) (h1 : n ≤ 9972) (hs : s.size ≤ 4000000000) (w : World) :
    Calls Tryd.prog 29 #[.int .i64 n, .string s] w fun e w' => e = .returned (.int .i64 (chk n s.data.toList)) ∧ w' = w := by
  go_enter Tryd.func29, Tryd.ntmps29
  go_wp2
  go_loopg [5, 6] s.size (fun kq v5 v6 w' => ∃ (c : Int) (i : Nat), v5 = .int .i64 c ∧ v6 = .int .i64 i ∧ Hid0 (i + kq = s.size ∧ 0 ≤ c ∧ c ≤ 9972 ∧ chk c (s.data.toList.drop i) = chk n s.data.toList) ∧ w' = w)
  case atStart => exact ⟨n, 0, rfl, rfl, ⟨by omega, h0, by omega, rfl⟩, rfl⟩
  case round =>
    obtain ⟨c, i, rfl, rfl, ⟨hi, hc0, hc1, hch⟩, rfl⟩ := hrel
    by_cases hlt : i < s.size
    · have hb : decide ((i : Int) < (s.size : Int)) = true := decide_eq_true (by omega)
      obtain ⟨k1, rfl⟩ : ∃ k1, gk = k1 + 1 := ⟨gk - 1, by omega⟩
      have p5 : (0 ≤ (i : Int)) = True := eq_true (by omega)
      have q5 : ((i : Int) < (s.size : Int)) = True := eq_true (by omega)
      go_wp2
      go_roundg k1
      case measure => omega
      case rel =>
        rw [drop_byte hlt] at hch
        have hbt := s.data[i].toNat_lt
        have e1 : wrap64 (wrap64 (c * 31) + wrap64 ((s[i].toNat : Nat) : Int)) = 31 * c + ((s.data[i].toNat : Nat) : Int) := by
          have : s[i] = s.data[i] := rfl
          rw [this, IntWalk.wrap64_in (c * 31) (by omega), IntWalk.wrap64_in ((s.data[i].toNat : Nat) : Int) (by omega), IntWalk.wrap64_in _ (by omega), Int.mul_comm]
        have e1' : wrap64 (c * 31 + wrap64 ((s[i].toNat : Nat) : Int)) = 31 * c + ((s.data[i].toNat : Nat) : Int) := by
          have : s[i] = s.data[i] := rfl
          rw [this, IntWalk.wrap64_in ((s.data[i].toNat : Nat) : Int) (by omega), IntWalk.wrap64_in _ (by omega), Int.mul_comm]
        have e2 := chk_step hc0 hc1 s.data[i]
        refine ⟨_, i + 1, rfl, ?_, ⟨by omega, ?_, ?_, ?_⟩, rfl⟩
        · congr 1
        · first | rw [e1] | rw [e1']
          exact e2.1
        · first | rw [e1] | rw [e1']
          exact e2.2
        · first | rw [e1] | rw [e1']
          exact hch
    · have hb : decide ((i : Int) < (s.size : Int)) = false := decide_eq_false (by omega)
      have he : c = chk n s.data.toList := by rw [← hch, List.drop_eq_nil_of_le (by simp; omega)]; rfl
      subst he
      clear hch
      go_wp2
      go_ret
      exact ⟨rfl, rfl⟩

set_option maxHeartbeats 400000 in
theorem spec_In (x a b : Int) (w : World) :
    Calls Tryd.prog 27 #[.int .i64 x, .int .i64 a, .int .i64 b] w fun e w' => e = .returned (.bool (decide (a ≤ x ∧ x ≤ b))) ∧ w' = w := by
  by_cases h : a ≤ x
  · have c1 : decide (a ≤ x) = true := decide_eq_true h
    go_enter Tryd.func27, Tryd.ntmps27
    go_wp2
    go_ret
    refine ⟨?_, rfl⟩
    simp [h]
  · have c1 : decide (a ≤ x) = false := decide_eq_false h
    go_enter Tryd.func27, Tryd.ntmps27
    go_wp2
    go_ret
    refine ⟨?_, rfl⟩
    simp [h]

set_option maxHeartbeats 400000 in
set_option maxRecDepth 100000 in
theorem spec_EntryOf (n : Int) (s : ByteArray) (hs : s.size ≤ 4611686018427387904) (w : World) :
    Calls Tryd.prog 7 #[.int .i64 n, .string s] w fun e w' => e = .returned (.string (if 0 ≤ n ∧ n ≤ 40 ∧ s.size ≤ 2000 then entry n s else ⟨#[]⟩)) ∧ Below w.heap.size w w' := by
  have kI := spec_In n 0 40
  by_cases hin : 0 ≤ n ∧ n ≤ 40
  · rw [decide_eq_true hin] at kI
    by_cases hs2 : s.size ≤ 2000
    · have c3 : decide (2000 < (s.size : Int)) = false := decide_eq_false (by omega)
      rw [if_pos ⟨hin.1, hin.2, hs2⟩]
      have hA := itoa_len hin.1 (by omega : n ≤ 9972)
      have hck := chk_bound s.data.toList n hin.1 (by omega)
      have hB := itoa_len hck.1 hck.2
      unfold entry
      have kC := spec_Check n s hin.1 (by omega) (by omega)
      obtain ⟨F, hF⟩ : ∃ F : Int → ByteArray, ∀ m, (⟨(Lib.itoa m).toArray⟩ : ByteArray) = F m := ⟨_, fun _ => rfl⟩
      have kF : ∀ m w, 0 ≤ m → m ≤ 9972 → Calls Tryd.prog 28 #[.int .i64 m] w fun e w' => e = .returned (.string (F m)) ∧ w' = w := fun m w h0 h1 => by
        rw [← hF]; exact spec_FormatInt m (by omega) (by omega) w
      simp only [hF] at hA hB ⊢
      generalize chk n s.data.toList = C at hB kC hck ⊢
      clear hF
      have l1 : ¬ 9223372036854775807 < (F n).size + 1 := by omega
      have l2 : ¬ 9223372036854775807 < (F n).size + 1 + s.size := by omega
      have l3 : ¬ 9223372036854775807 < (F n).size + 1 + s.size + 1 := by omega
      have l4 : ¬ 9223372036854775807 < (F n).size + 1 + s.size + 1 + (F C).size := by omega
      go_enter Tryd.func7, Tryd.ntmps7
      go_wp2_with (first | (go_at_call 27; refine (kI _).mono ?_; rintro e w1 ⟨rfl, rfl⟩) | (go_at_call 29; refine (kC _).mono ?_; rintro e w1 ⟨rfl, rfl⟩) | (go_at_call 28; refine (kF _ _ (by omega) (by omega)).mono ?_; rintro e w1 ⟨rfl, rfl⟩))
      go_ret
      exact ⟨rfl, by first | exact Below.refl _ _ | (refine Drew.below ?_; repeat (first | exact Drew.refl _ | apply Drew.step))⟩
    · have c3 : decide (2000 < (s.size : Int)) = true := decide_eq_true (by omega)
      rw [if_neg (by omega)]
      go_enter Tryd.func7, Tryd.ntmps7
      go_wp2_with (go_at_call 27; refine (kI _).mono ?_; rintro e w1 ⟨rfl, rfl⟩)
      go_ret
      exact ⟨rfl, by first | exact Below.refl _ _ | (refine Drew.below ?_; repeat (first | exact Drew.refl _ | apply Drew.step))⟩
  · rw [decide_eq_false hin] at kI
    rw [if_neg (by omega)]
    go_enter Tryd.func7, Tryd.ntmps7
    go_wp2_with (go_at_call 27; refine (kI _).mono ?_; rintro e w1 ⟨rfl, rfl⟩)
    go_ret
    exact ⟨rfl, by first | exact Below.refl _ _ | (refine Drew.below ?_; repeat (first | exact Drew.refl _ | apply Drew.step))⟩

set_option maxHeartbeats 400000 in
set_option maxRecDepth 100000 in
/-- laws.FnExactEntryOf: true, whatever the arguments. -/
theorem law_EntryOf (n : Int) (s : ByteArray) (w : World) (ht : Tab w) :
    Calls Tryd.prog 3 #[.int .i64 n, .string s] w fun e w' => e = .returned (.bool true) ∧ Below w.heap.size w w' := by
  by_cases hbig : 1048576 < s.size
  · have c1 : decide (1048576 < (s.size : Int)) = true := decide_eq_true (by omega)
    go_enter Tryd.func3, Tryd.ntmps3
    go_wp2
    go_ret
    exact ⟨rfl, Below.refl _ _⟩
  · have c1 : decide (1048576 < (s.size : Int)) = false := decide_eq_false (by omega)
    obtain ⟨r, kS, kI⟩ : ∃ r, (∀ w, Calls Tryd.prog 7 #[.int .i64 n, .string s] w fun e w' => e = .returned (.string r) ∧ Below w.heap.size w w') ∧
        (∀ w, Tab w → Calls Tryd.prog 8 #[.int .i64 n, .string s] w fun e w' => e = .returned (.string r) ∧ Below w.heap.size w w') := by
      refine ⟨_, fun w => spec_EntryOf n s (by omega) w, fun w ht => ?_⟩
      by_cases h : 0 ≤ n ∧ n ≤ 40 ∧ s.size ≤ 2000
      · rw [if_pos h]; exact impl_EntryOf_in n s h.1 h.2.1 h.2.2 w ht
      · rw [if_neg h]; exact impl_EntryOf_out n s h w
    go_enter Tryd.func3, Tryd.ntmps3
    go_wp2_with (first | (go_at_call 7; refine (kS _).mono ?_; rintro e w1 ⟨rfl, hb1⟩) | (go_at_call 8; refine (kI _ (tab_below ht hb1)).mono ?_; rintro e w2 ⟨rfl, hb2⟩))
    go_ret
    exact ⟨rfl, hb1.trans (hb2.mono hb1.size)⟩
end Go.Proofs.YtjhcdndmbilogaaDoor
