/-
  The functions as they read, each proved to do what its text says.
  CONDITIONS: those that each theorem names.
-/
import Derived.Test.YtjhcdndmbilogaaE24
import Derived.Test.YtjhcdndmbilogaaProg
namespace Go.Proofs.Ytjhcdndmbilogaa
set_option linter.unusedVariables false
set_option maxRecDepth 100000
namespace Pl
open Go Go.Proofs Eng
theorem follows : Try.prog.follows .mixedOrders = true := by kernel_rfl
/-! g03413/laws.big -/
namespace F5
abbrev ps : List PM := [.c (.dat (.sl (.int .u8)))]
abbrev rs : List PM := [.c (.dat .bool)]
abbrev X : Type := ((List Int) × Unit)
abbrev R : Type := (Bool × Unit) × Unit
abbrev Y : Type := Option R
noncomputable def T : Tbl := tbl []
noncomputable def c : Code := codeOf Try.f5
noncomputable def la : Nat → Option LAnn := fun k => lookL [] k
noncomputable def fin : Exit → St → Y := retK (finish Try.prog ps rs [.tmp 2])
noncomputable def O : Ora R := ora []
theorem lt_eq : ltOf Try.prog T 6 [] la c fin = ltv (O) c := by kernel_rfl
noncomputable def d0 (x : X) : Y := (some (((decide (((((List.length x.1) : Nat) : Int) : Int) > 1048576)), ()), ()))
noncomputable def den (x : X) : Y := d0 x
theorem main_eq (x : X) : evFV Try.prog T 6 la c [.tmp 2] ps rs (ltv (O) c) x = d0 x := by kernel_rfl
theorem ok {J : World → Prop} {G : Nat} : Con Try.prog J G 5 ps rs den := by
  have hT : TblOk Try.prog J G T := tbl_nil
  exact Con.of_eq (fn_ok (fn := Try.f5) (c := c) (nt := 6) (res := [.tmp 2]) (ps := ps) (rs := rs) follows hT (by kernel_rfl) (by kernel_rfl) (by kernel_rfl) (by kernel_rfl) (by kernel_rfl) (by kernel_rfl) la) (fun x => (evFV_eq lt_eq x).trans (main_eq x))
end F5
/-! g03413/spec.l1New -/
namespace F19
abbrev ps : List PM := [.c (.dat (.sl (.int .u8)))]
abbrev rs : List PM := [.ptr [.dat (.pair (.sl (.int .u8)) (.pair (.int .i64) (.int .i64)))]]
abbrev X : Type := ((List Int) × Unit)
abbrev R : Type := ((((List Int) × (Int × Int)) × Unit) × Unit) × Unit
abbrev Y : Type := Option R
noncomputable def T : Tbl := tbl []
noncomputable def c : Code := codeOf Try.f19
abbrev X0 : Type := ((List Int) × (Int × (Int × Unit)))
noncomputable def a0 : LAnn := ⟨[0, 3, 4], [.c (.dat (.sl (.int .u8))), .c (.dat (.int .i64)), .c (.dat (.int .i64))]⟩
noncomputable def la : Nat → Option LAnn := fun k => lookL [(3, a0)] k
noncomputable def fin : Exit → St → Y := retK (finish Try.prog ps rs [.tmp 2])
noncomputable def O (l0 : X0 → Y) : Ora R := ora [(3, ⟨a0, l0⟩)]
noncomputable def c0 : Code := atP c [1, 1, 0, 1, 0, 0]
noncomputable def k0 : Exit → St → Y := kAt Try.prog T 32 [] la c [1, 1, 0, 1, 0] fin
noncomputable def kD0 (l0 : X0 → Y) : Exit → St → Y := kAtD Try.prog T 32 [] la c [1, 1, 0, 1, 0] (ltv (O l0) c) fin
noncomputable def w0 : Nat → X0 → Y := lpAt Try.prog T 32 [] la a0 c0 k0
noncomputable def O0 : Ora R := ora []
theorem lt_eq : ltOf Try.prog T 32 [] la c fin = ltv (O (w0 big)) c := by kernel_rfl
theorem lt0_eq (r0 : X0 → Y) : ltOf Try.prog T 32 [] la c0 (contOf a0 k0 r0) = ltv (O0) c0 := by kernel_rfl
theorem kD0_eq : k0 = kD0 (w0 big) := contV_eq rfl lt_eq
noncomputable def b0 (r0 : X0 → Y) (x : X0) : Y := (if (decide ((x.2.2.1 : Int) < (((List.length x.1) : Nat) : Int))) = true then (if (decide ((x.2.2.1 : Int) < 4000)) = true then (if (decide (0 ≤ (x.2.2.1 : Int)) && decide (x.2.2.1 < ((List.length x.1 : Nat) : Int))) = true then (r0 (x.1, ((IntKind.wrap .i64 (((BitVec.ofInt (IntKind.bits .i64) (IntKind.wrap .i64 ((IntKind.wrap .i64 ((IntKind.wrap .i64 (x.2.1 * 131)) + (IntKind.wrap .i64 (gt (.int .u8) x.1 (Int.toNat x.2.2.1))))) + 7)) &&& BitVec.ofInt (IntKind.bits .i64) 1073741823).toNat : Int))), ((IntKind.wrap .i64 (x.2.2.1 + 1)), ())))) else none) else (some ((((x.1, (0, x.2.1)), ()), ()), ()))) else (some ((((x.1, (0, x.2.1)), ()), ()), ())))
noncomputable def B0 (r0 : X0 → Y) (x : X0) : Y := b0 r0 x
noncomputable def L0 : Nat → X0 → Y := itr B0
theorem rnd0 (l0 : X0 → Y) (r0 : X0 → Y) (x : X0) : rndV Try.prog T 32 [] la a0 c0 (ltv (O0) c0) (kD0 l0) r0 x = b0 r0 x := by kernel_rfl
theorem rd0 (r0 : X0 → Y) (x : X0) : rndAt Try.prog T 32 [] la a0 c0 k0 r0 x = B0 r0 x :=
  have h : rndAt Try.prog T 32 [] la a0 c0 k0 r0 x = rndV Try.prog T 32 [] la a0 c0 (ltv (O0) c0) (kD0 (w0 big)) r0 x := rndV_eq (ann := a0) kD0_eq (lt0_eq r0) x
  h.trans (rnd0 (w0 big) r0 x)
theorem w0_eq : w0 = L0 := by exact lp_itr (P := Try.prog) (Δ := T) (nt := 32) (fp := []) (la := la) (R := R) (ann := a0) (body := c0) (K := k0) (B := B0) (fun r0 x => rd0 r0 x)
noncomputable def d0 (l0 : X0 → Y) (x : X) : Y := (l0 (x.1, ((IntKind.wrap .i64 (10101 + (((List.length x.1) : Nat) : Int))), (0, ()))))
noncomputable def den (x : X) : Y := d0 (L0 big) x
theorem main_eq (l0 : X0 → Y) (x : X) : evFV Try.prog T 32 la c [.tmp 2] ps rs (ltv (O l0) c) x = d0 l0 x := by kernel_rfl
theorem ok {J : World → Prop} {G : Nat} : Con Try.prog J G 19 ps rs den := by
  have hT : TblOk Try.prog J G T := tbl_nil
  exact Con.of_eq (fn_ok (fn := Try.f19) (c := c) (nt := 32) (res := [.tmp 2]) (ps := ps) (rs := rs) follows hT (by kernel_rfl) (by kernel_rfl) (by kernel_rfl) (by kernel_rfl) (by kernel_rfl) (by kernel_rfl) la) (fun x => (evFV_eq lt_eq x).trans ((main_eq (w0 big) x).trans (by rw [w0_eq]; rfl)))
end F19
/-! g03413/spec.l1In -/
namespace F44
abbrev ps : List PM := [.c (.dat (.int .i64)), .c (.dat (.int .i64)), .c (.dat (.int .i64))]
abbrev rs : List PM := [.c (.dat .bool)]
abbrev X : Type := (Int × (Int × (Int × Unit)))
abbrev R : Type := (Bool × Unit) × Unit
abbrev Y : Type := Option R
noncomputable def T : Tbl := tbl []
noncomputable def c : Code := codeOf Try.f44
noncomputable def la : Nat → Option LAnn := fun k => lookL [] k
noncomputable def fin : Exit → St → Y := retK (finish Try.prog ps rs [.tmp 6])
noncomputable def O : Ora R := ora []
theorem lt_eq : ltOf Try.prog T 15 [] la c fin = ltv (O) c := by kernel_rfl
noncomputable def d0 (x : X) : Y := (if (decide ((x.1 : Int) ≥ x.2.1)) = true then (some (((decide ((x.1 : Int) ≤ x.2.2.1)), ()), ())) else (some ((false, ()), ())))
noncomputable def den (x : X) : Y := d0 x
theorem main_eq (x : X) : evFV Try.prog T 15 la c [.tmp 6] ps rs (ltv (O) c) x = d0 x := by kernel_rfl
theorem ok {J : World → Prop} {G : Nat} : Con Try.prog J G 44 ps rs den := by
  have hT : TblOk Try.prog J G T := tbl_nil
  exact Con.of_eq (fn_ok (fn := Try.f44) (c := c) (nt := 15) (res := [.tmp 6]) (ps := ps) (rs := rs) follows hT (by kernel_rfl) (by kernel_rfl) (by kernel_rfl) (by kernel_rfl) (by kernel_rfl) (by kernel_rfl) la) (fun x => (evFV_eq lt_eq x).trans (main_eq x))
end F44
/-! g03413/spec.IsNumber -/
namespace F41
abbrev ps : List PM := [.c (.dat (.int .i64))]
abbrev rs : List PM := [.c (.dat .bool)]
abbrev X : Type := (Int × Unit)
abbrev R : Type := (Bool × Unit) × Unit
abbrev Y : Type := Option R
noncomputable def T : Tbl := tbl [(44, [⟨F44.ps, F44.rs, F44.den⟩])]
noncomputable def c : Code := codeOf Try.f41
noncomputable def la : Nat → Option LAnn := fun k => lookL [] k
noncomputable def fin : Exit → St → Y := retK (finish Try.prog ps rs [.tmp 2])
noncomputable def O : Ora R := ora []
theorem lt_eq : ltOf Try.prog T 5 [] la c fin = ltv (O) c := by kernel_rfl
noncomputable def d0 (x : X) : Y := (Option.bind (F44.den (x.1, ((-400000000), (400000000, ())))) fun y1 => (some ((y1.1.1, ()), ())))
noncomputable def den (x : X) : Y := d0 x
theorem main_eq (x : X) : evFV Try.prog T 5 la c [.tmp 2] ps rs (ltv (O) c) x = d0 x := by kernel_rfl
theorem ok {J : World → Prop} {G : Nat} : Con Try.prog J G 41 ps rs den := by
  have hT : TblOk Try.prog J G T := (tbl_cons (by intro e he; simp only [List.mem_cons, List.not_mem_nil, or_false] at he; subst he; exact F44.ok) tbl_nil)
  exact Con.of_eq (fn_ok (fn := Try.f41) (c := c) (nt := 5) (res := [.tmp 2]) (ps := ps) (rs := rs) follows hT (by kernel_rfl) (by kernel_rfl) (by kernel_rfl) (by kernel_rfl) (by kernel_rfl) (by kernel_rfl) la) (fun x => (evFV_eq lt_eq x).trans (main_eq x))
end F41
/-! g03413/spec.l1Abs -/
namespace F50
abbrev ps : List PM := [.c (.dat (.int .i64))]
abbrev rs : List PM := [.c (.dat (.int .i64))]
abbrev X : Type := (Int × Unit)
abbrev R : Type := (Int × Unit) × Unit
abbrev Y : Type := Option R
noncomputable def T : Tbl := tbl []
noncomputable def c : Code := codeOf Try.f50
noncomputable def la : Nat → Option LAnn := fun k => lookL [] k
noncomputable def fin : Exit → St → Y := retK (finish Try.prog ps rs [.tmp 2])
noncomputable def O : Ora R := ora []
theorem lt_eq : ltOf Try.prog T 7 [] la c fin = ltv (O) c := by kernel_rfl
noncomputable def d0 (x : X) : Y := (some (((imax x.1 (IntKind.wrap .i64 (0 - x.1))), ()), ()))
noncomputable def den (x : X) : Y := d0 x
theorem main_eq (x : X) : evFV Try.prog T 7 la c [.tmp 2] ps rs (ltv (O) c) x = d0 x := by kernel_rfl
theorem ok {J : World → Prop} {G : Nat} : Con Try.prog J G 50 ps rs den := by
  have hT : TblOk Try.prog J G T := tbl_nil
  exact Con.of_eq (fn_ok (fn := Try.f50) (c := c) (nt := 7) (res := [.tmp 2]) (ps := ps) (rs := rs) follows hT (by kernel_rfl) (by kernel_rfl) (by kernel_rfl) (by kernel_rfl) (by kernel_rfl) (by kernel_rfl) la) (fun x => (evFV_eq lt_eq x).trans (main_eq x))
end F50
/-! g03413/spec.GcdOf -/
namespace F49
abbrev ps : List PM := [.c (.dat (.int .i64)), .c (.dat (.int .i64))]
abbrev rs : List PM := [.c (.dat (.int .i64))]
abbrev X : Type := (Int × (Int × Unit))
abbrev R : Type := (Int × Unit) × Unit
abbrev Y : Type := Option R
noncomputable def T : Tbl := tbl [(41, [⟨F41.ps, F41.rs, F41.den⟩]), (50, [⟨F50.ps, F50.rs, F50.den⟩])]
noncomputable def c : Code := codeOf Try.f49
abbrev X0 : Type := (Int × (Int × Unit))
noncomputable def a0 : LAnn := ⟨[0, 1], [.c (.dat (.int .i64)), .c (.dat (.int .i64))]⟩
noncomputable def la : Nat → Option LAnn := fun k => lookL [(3, a0)] k
noncomputable def fin : Exit → St → Y := retK (finish Try.prog ps rs [.tmp 4])
noncomputable def O (l0 : X0 → Y) : Ora R := ora [(3, ⟨a0, l0⟩)]
noncomputable def c0 : Code := atP c [1, 1, 0, 0, 0]
noncomputable def k0 : Exit → St → Y := kAt Try.prog T 21 [] la c [1, 1, 0, 0] fin
noncomputable def kD0 (l0 : X0 → Y) : Exit → St → Y := kAtD Try.prog T 21 [] la c [1, 1, 0, 0] (ltv (O l0) c) fin
noncomputable def w0 : Nat → X0 → Y := lpAt Try.prog T 21 [] la a0 c0 k0
noncomputable def O0 : Ora R := ora []
theorem lt_eq : ltOf Try.prog T 21 [] la c fin = ltv (O (w0 big)) c := by kernel_rfl
theorem lt0_eq (r0 : X0 → Y) : ltOf Try.prog T 21 [] la c0 (contOf a0 k0 r0) = ltv (O0) c0 := by kernel_rfl
theorem kD0_eq : k0 = kD0 (w0 big) := contV_eq rfl lt_eq
noncomputable def b0 (r0 : X0 → Y) (x : X0) : Y := (if ((x.2.1 : Int) != 0) = true then (if ((x.2.1 : Int) != 0) = true then (r0 (x.2.1, ((Int.tmod x.1 x.2.1), ()))) else none) else (Option.bind (F50.den (x.1, ())) fun y3 => (some ((y3.1.1, ()), ()))))
noncomputable def B0 (r0 : X0 → Y) (x : X0) : Y := b0 r0 x
noncomputable def L0 : Nat → X0 → Y := itr B0
theorem rnd0 (l0 : X0 → Y) (r0 : X0 → Y) (x : X0) : rndV Try.prog T 21 [] la a0 c0 (ltv (O0) c0) (kD0 l0) r0 x = b0 r0 x := by kernel_rfl
theorem rd0 (r0 : X0 → Y) (x : X0) : rndAt Try.prog T 21 [] la a0 c0 k0 r0 x = B0 r0 x :=
  have h : rndAt Try.prog T 21 [] la a0 c0 k0 r0 x = rndV Try.prog T 21 [] la a0 c0 (ltv (O0) c0) (kD0 (w0 big)) r0 x := rndV_eq (ann := a0) kD0_eq (lt0_eq r0) x
  h.trans (rnd0 (w0 big) r0 x)
theorem w0_eq : w0 = L0 := by exact lp_itr (P := Try.prog) (Δ := T) (nt := 21) (fp := []) (la := la) (R := R) (ann := a0) (body := c0) (K := k0) (B := B0) (fun r0 x => rd0 r0 x)
noncomputable def d0 (l0 : X0 → Y) (x : X) : Y := (Option.bind (F41.den (x.1, ())) fun y1 => (if (!y1.1.1) = false then (Option.bind (F41.den (x.2.1, ())) fun y2 => (if (!y2.1.1) = true then (some ((0, ()), ())) else (l0 (x.1, (x.2.1, ()))))) else (some ((0, ()), ()))))
noncomputable def den (x : X) : Y := d0 (L0 big) x
theorem main_eq (l0 : X0 → Y) (x : X) : evFV Try.prog T 21 la c [.tmp 4] ps rs (ltv (O l0) c) x = d0 l0 x := by kernel_rfl
theorem ok {J : World → Prop} {G : Nat} : Con Try.prog J G 49 ps rs den := by
  have hT : TblOk Try.prog J G T := (tbl_cons (by intro e he; simp only [List.mem_cons, List.not_mem_nil, or_false] at he; subst he; exact F41.ok) (tbl_cons (by intro e he; simp only [List.mem_cons, List.not_mem_nil, or_false] at he; subst he; exact F50.ok) tbl_nil))
  exact Con.of_eq (fn_ok (fn := Try.f49) (c := c) (nt := 21) (res := [.tmp 4]) (ps := ps) (rs := rs) follows hT (by kernel_rfl) (by kernel_rfl) (by kernel_rfl) (by kernel_rfl) (by kernel_rfl) (by kernel_rfl) la) (fun x => (evFV_eq lt_eq x).trans ((main_eq (w0 big) x).trans (by rw [w0_eq]; rfl)))
end F49
/-! g03413/spec.IsRatio -/
namespace F31
abbrev ps : List PM := [.agg [.dat (.pair (.int .i64) (.int .i64))]]
abbrev rs : List PM := [.c (.dat .bool)]
abbrev X : Type := (((Int × Int) × Unit) × Unit)
abbrev R : Type := (Bool × Unit) × Unit
abbrev Y : Type := Option R
noncomputable def T : Tbl := tbl [(41, [⟨F41.ps, F41.rs, F41.den⟩]), (44, [⟨F44.ps, F44.rs, F44.den⟩]), (49, [⟨F49.ps, F49.rs, F49.den⟩])]
noncomputable def c : Code := codeOf Try.f31
noncomputable def la : Nat → Option LAnn := fun k => lookL [] k
noncomputable def fin : Exit → St → Y := retK (finish Try.prog ps rs [.tmp 2])
noncomputable def O : Ora R := ora []
theorem lt_eq : ltOf Try.prog T 19 [] la c fin = ltv (O) c := by kernel_rfl
noncomputable def d0 (x : X) : Y := (Option.bind (F44.den (x.1.1.2, (1, (400000000, ())))) fun y1 => (if y1.1.1 = true then (Option.bind (F41.den (x.1.1.1, ())) fun y2 => (if y2.1.1 = true then (Option.bind (F49.den (x.1.1.1, (x.1.1.2, ()))) fun y3 => (some ((((y3.1.1 : Int) == 1), ()), ()))) else (some ((false, ()), ())))) else (some ((false, ()), ()))))
noncomputable def den (x : X) : Y := d0 x
theorem main_eq (x : X) : evFV Try.prog T 19 la c [.tmp 2] ps rs (ltv (O) c) x = d0 x := by kernel_rfl
theorem ok {J : World → Prop} {G : Nat} : Con Try.prog J G 31 ps rs den := by
  have hT : TblOk Try.prog J G T := (tbl_cons (by intro e he; simp only [List.mem_cons, List.not_mem_nil, or_false] at he; subst he; exact F41.ok) (tbl_cons (by intro e he; simp only [List.mem_cons, List.not_mem_nil, or_false] at he; subst he; exact F44.ok) (tbl_cons (by intro e he; simp only [List.mem_cons, List.not_mem_nil, or_false] at he; subst he; exact F49.ok) tbl_nil)))
  exact Con.of_eq (fn_ok (fn := Try.f31) (c := c) (nt := 19) (res := [.tmp 2]) (ps := ps) (rs := rs) follows hT (by kernel_rfl) (by kernel_rfl) (by kernel_rfl) (by kernel_rfl) (by kernel_rfl) (by kernel_rfl) la) (fun x => (evFV_eq lt_eq x).trans (main_eq x))
end F31
/-! g03413/spec.l2Make -/
namespace F32
abbrev ps : List PM := [.c (.dat (.int .i64)), .c (.dat (.int .i64))]
abbrev rs : List PM := [.agg [.dat (.pair (.int .i64) (.int .i64))]]
abbrev X : Type := (Int × (Int × Unit))
abbrev R : Type := (((Int × Int) × Unit) × Unit) × Unit
abbrev Y : Type := Option R
noncomputable def T : Tbl := tbl [(31, [⟨F31.ps, F31.rs, F31.den⟩]), (50, [⟨F50.ps, F50.rs, F50.den⟩])]
noncomputable def c : Code := codeOf Try.f32
abbrev X0 : Type := (Int × (Int × (((Int × Int) × Unit) × (Int × (Int × Unit)))))
noncomputable def a0 : LAnn := ⟨[0, 1, 4, 5, 6], [.c (.dat (.int .i64)), .c (.dat (.int .i64)), .ptr [.dat (.pair (.int .i64) (.int .i64))], .c (.dat (.int .i64)), .c (.dat (.int .i64))]⟩
noncomputable def la : Nat → Option LAnn := fun k => lookL [(7, a0)] k
noncomputable def fin : Exit → St → Y := retK (finish Try.prog ps rs [.cell 4 26])
noncomputable def O (l0 : X0 → Y) : Ora R := ora [(7, ⟨a0, l0⟩)]
noncomputable def c0 : Code := atP c [1, 1, 1, 1, 1, 0, 0, 0]
noncomputable def k0 : Exit → St → Y := kAt Try.prog T 40 [] la c [1, 1, 1, 1, 1, 0, 0] fin
noncomputable def kD0 (l0 : X0 → Y) : Exit → St → Y := kAtD Try.prog T 40 [] la c [1, 1, 1, 1, 1, 0, 0] (ltv (O l0) c) fin
noncomputable def w0 : Nat → X0 → Y := lpAt Try.prog T 40 [] la a0 c0 k0
noncomputable def O0 : Ora R := ora []
theorem lt_eq : ltOf Try.prog T 40 [] la c fin = ltv (O (w0 big)) c := by kernel_rfl
theorem lt0_eq (r0 : X0 → Y) : ltOf Try.prog T 40 [] la c0 (contOf a0 k0 r0) = ltv (O0) c0 := by kernel_rfl
theorem kD0_eq : k0 = kD0 (w0 big) := contV_eq rfl lt_eq
noncomputable def b0 (r0 : X0 → Y) (x : X0) : Y := (if ((x.2.2.2.2.1 : Int) != 0) = true then (if ((x.2.2.2.2.1 : Int) != 0) = true then (r0 (x.1, (x.2.1, ((x.2.2.1.1, ()), (x.2.2.2.2.1, ((Int.tmod x.2.2.2.1 x.2.2.2.2.1), ())))))) else none) else (Option.bind (F50.den (x.2.2.2.1, ())) fun y1 => (if ((y1.1.1 : Int) != 0) = true then (if ((y1.1.1 : Int) != 0) = true then (Option.bind (F31.den ((((IntKind.wrap .i64 (Int.tdiv x.1 y1.1.1)), (IntKind.wrap .i64 (Int.tdiv x.2.1 y1.1.1))), ()), ())) fun y2 => (if (!y2.1.1) = true then (some ((((0, 0), ()), ()), ())) else (some (((((IntKind.wrap .i64 (Int.tdiv x.1 y1.1.1)), (IntKind.wrap .i64 (Int.tdiv x.2.1 y1.1.1))), ()), ()), ())))) else none) else none)))
noncomputable def B0 (r0 : X0 → Y) (x : X0) : Y := b0 r0 x
noncomputable def L0 : Nat → X0 → Y := itr B0
theorem rnd0 (l0 : X0 → Y) (r0 : X0 → Y) (x : X0) : rndV Try.prog T 40 [] la a0 c0 (ltv (O0) c0) (kD0 l0) r0 x = b0 r0 x := by kernel_rfl
theorem rd0 (r0 : X0 → Y) (x : X0) : rndAt Try.prog T 40 [] la a0 c0 k0 r0 x = B0 r0 x :=
  have h : rndAt Try.prog T 40 [] la a0 c0 k0 r0 x = rndV Try.prog T 40 [] la a0 c0 (ltv (O0) c0) (kD0 (w0 big)) r0 x := rndV_eq (ann := a0) kD0_eq (lt0_eq r0) x
  h.trans (rnd0 (w0 big) r0 x)
theorem w0_eq : w0 = L0 := by exact lp_itr (P := Try.prog) (Δ := T) (nt := 40) (fp := []) (la := la) (R := R) (ann := a0) (body := c0) (K := k0) (B := B0) (fun r0 x => rd0 r0 x)
noncomputable def d0 (l0 : X0 → Y) (x : X) : Y := (if ((x.2.1 : Int) == 0) = true then (some ((((0, 0), ()), ()), ())) else (if (decide ((x.2.1 : Int) < 0)) = true then (l0 ((IntKind.wrap .i64 (0 - x.1)), ((IntKind.wrap .i64 (0 - x.2.1)), (((0, 0), ()), ((IntKind.wrap .i64 (0 - x.1)), ((IntKind.wrap .i64 (0 - x.2.1)), ())))))) else (l0 (x.1, (x.2.1, (((0, 0), ()), (x.1, (x.2.1, ()))))))))
noncomputable def den (x : X) : Y := d0 (L0 big) x
theorem main_eq (l0 : X0 → Y) (x : X) : evFV Try.prog T 40 la c [.cell 4 26] ps rs (ltv (O l0) c) x = d0 l0 x := by kernel_rfl
theorem ok {J : World → Prop} {G : Nat} : Con Try.prog J G 32 ps rs den := by
  have hT : TblOk Try.prog J G T := (tbl_cons (by intro e he; simp only [List.mem_cons, List.not_mem_nil, or_false] at he; subst he; exact F31.ok) (tbl_cons (by intro e he; simp only [List.mem_cons, List.not_mem_nil, or_false] at he; subst he; exact F50.ok) tbl_nil))
  exact Con.of_eq (fn_ok (fn := Try.f32) (c := c) (nt := 40) (res := [.cell 4 26]) (ps := ps) (rs := rs) follows hT (by kernel_rfl) (by kernel_rfl) (by kernel_rfl) (by kernel_rfl) (by kernel_rfl) (by kernel_rfl) la) (fun x => (evFV_eq lt_eq x).trans ((main_eq (w0 big) x).trans (by rw [w0_eq]; rfl)))
end F32
/-! g03413/spec.MakeRatio -/
namespace F22
abbrev ps : List PM := [.c (.dat (.int .i64)), .c (.dat (.int .i64))]
abbrev rs : List PM := [.agg [.dat (.pair (.int .i64) (.int .i64))]]
abbrev X : Type := (Int × (Int × Unit))
abbrev R : Type := (((Int × Int) × Unit) × Unit) × Unit
abbrev Y : Type := Option R
noncomputable def T : Tbl := tbl [(32, [⟨F32.ps, F32.rs, F32.den⟩]), (41, [⟨F41.ps, F41.rs, F41.den⟩])]
noncomputable def c : Code := codeOf Try.f22
noncomputable def la : Nat → Option LAnn := fun k => lookL [] k
noncomputable def fin : Exit → St → Y := retK (finish Try.prog ps rs [.cell 4 26])
noncomputable def O : Ora R := ora []
theorem lt_eq : ltOf Try.prog T 17 [] la c fin = ltv (O) c := by kernel_rfl
noncomputable def d0 (x : X) : Y := (Option.bind (F41.den (x.1, ())) fun y1 => (if (!y1.1.1) = false then (Option.bind (F41.den (x.2.1, ())) fun y2 => (if (!y2.1.1) = true then (some ((((0, 0), ()), ()), ())) else (Option.bind (F32.den (x.1, (x.2.1, ()))) fun y3 => (some (((y3.1.1.1, ()), ()), ()))))) else (some ((((0, 0), ()), ()), ()))))
noncomputable def den (x : X) : Y := d0 x
theorem main_eq (x : X) : evFV Try.prog T 17 la c [.cell 4 26] ps rs (ltv (O) c) x = d0 x := by kernel_rfl
theorem ok {J : World → Prop} {G : Nat} : Con Try.prog J G 22 ps rs den := by
  have hT : TblOk Try.prog J G T := (tbl_cons (by intro e he; simp only [List.mem_cons, List.not_mem_nil, or_false] at he; subst he; exact F32.ok) (tbl_cons (by intro e he; simp only [List.mem_cons, List.not_mem_nil, or_false] at he; subst he; exact F41.ok) tbl_nil))
  exact Con.of_eq (fn_ok (fn := Try.f22) (c := c) (nt := 17) (res := [.cell 4 26]) (ps := ps) (rs := rs) follows hT (by kernel_rfl) (by kernel_rfl) (by kernel_rfl) (by kernel_rfl) (by kernel_rfl) (by kernel_rfl) la) (fun x => (evFV_eq lt_eq x).trans (main_eq x))
end F22
/-! g03413/spec.l1Byte -/
namespace F42
abbrev ps : List PM := [.ptr [.dat (.pair (.sl (.int .u8)) (.pair (.int .i64) (.int .i64)))]]
abbrev rs : List PM := [.c (.dat (.int .i64))]
abbrev X : Type := ((((List Int) × (Int × Int)) × Unit) × Unit)
abbrev R : Type := (Int × Unit) × ((((List Int) × (Int × Int)) × Unit) × Unit)
abbrev Y : Type := Option R
noncomputable def T : Tbl := tbl []
noncomputable def c : Code := codeOf Try.f42
noncomputable def la : Nat → Option LAnn := fun k => lookL [] k
noncomputable def fin : Exit → St → Y := retK (finish Try.prog ps rs [.tmp 2])
noncomputable def O : Ora R := ora []
theorem lt_eq : ltOf Try.prog T 58 [0] la c fin = ltv (O) c := by kernel_rfl
noncomputable def d0 (x : X) : Y := (if (decide (0 ≤ (33 : Int))) = true then (if (decide (0 ≤ (45 : Int))) = true then (if (decide ((x.1.1.2.1 : Int) < (((List.length x.1.1.1) : Nat) : Int))) = true then (if (decide (0 ≤ (x.1.1.2.1 : Int)) && decide (x.1.1.2.1 < ((List.length x.1.1.1 : Nat) : Int))) = true then (some (((IntKind.wrap .i64 (((BitVec.ofInt (IntKind.bits .i64) (IntKind.wrap .i64 ((IntKind.wrap .i64 (((BitVec.ofInt (IntKind.bits .i64) (IntKind.wrap .i64 (((BitVec.ofInt (IntKind.bits .i64) (Int.fdiv (IntKind.wrap .i64 ((IntKind.wrap .i64 (x.1.1.2.2 * 6364136223846793005)) + 1442695040888963407)) (2 ^ (min (Int.toNat 33) (IntKind.bits .i64)))) ^^^ BitVec.ofInt (IntKind.bits .i64) (Int.fdiv (IntKind.wrap .i64 ((IntKind.wrap .i64 (x.1.1.2.2 * 6364136223846793005)) + 1442695040888963407)) (2 ^ (min (Int.toNat 45) (IntKind.bits .i64))))).toNat : Int))) &&& BitVec.ofInt (IntKind.bits .i64) 255).toNat : Int))) + (IntKind.wrap .i64 (gt (.int .u8) x.1.1.1 (Int.toNat x.1.1.2.1))))) &&& BitVec.ofInt (IntKind.bits .i64) 255).toNat : Int))), ()), (((x.1.1.1, ((IntKind.wrap .i64 (x.1.1.2.1 + 1)), (IntKind.wrap .i64 ((IntKind.wrap .i64 (x.1.1.2.2 * 6364136223846793005)) + 1442695040888963407)))), ()), ()))) else none) else (some (((IntKind.wrap .i64 (((BitVec.ofInt (IntKind.bits .i64) (IntKind.wrap .i64 (((BitVec.ofInt (IntKind.bits .i64) (Int.fdiv (IntKind.wrap .i64 ((IntKind.wrap .i64 (x.1.1.2.2 * 6364136223846793005)) + 1442695040888963407)) (2 ^ (min (Int.toNat 33) (IntKind.bits .i64)))) ^^^ BitVec.ofInt (IntKind.bits .i64) (Int.fdiv (IntKind.wrap .i64 ((IntKind.wrap .i64 (x.1.1.2.2 * 6364136223846793005)) + 1442695040888963407)) (2 ^ (min (Int.toNat 45) (IntKind.bits .i64))))).toNat : Int))) &&& BitVec.ofInt (IntKind.bits .i64) 255).toNat : Int))), ()), (((x.1.1.1, (x.1.1.2.1, (IntKind.wrap .i64 ((IntKind.wrap .i64 (x.1.1.2.2 * 6364136223846793005)) + 1442695040888963407)))), ()), ())))) else none) else none)
noncomputable def den (x : X) : Y := d0 x
theorem main_eq (x : X) : evFV Try.prog T 58 la c [.tmp 2] ps rs (ltv (O) c) x = d0 x := by kernel_rfl
theorem ok {J : World → Prop} {G : Nat} : Con Try.prog J G 42 ps rs den := by
  have hT : TblOk Try.prog J G T := tbl_nil
  exact Con.of_eq (fn_ok (fn := Try.f42) (c := c) (nt := 58) (res := [.tmp 2]) (ps := ps) (rs := rs) follows hT (by kernel_rfl) (by kernel_rfl) (by kernel_rfl) (by kernel_rfl) (by kernel_rfl) (by kernel_rfl) la) (fun x => (evFV_eq lt_eq x).trans (main_eq x))
end F42
/-! g03413/spec.l1Below -/
namespace F23
abbrev ps : List PM := [.ptr [.dat (.pair (.sl (.int .u8)) (.pair (.int .i64) (.int .i64)))], .c (.dat (.int .i64))]
abbrev rs : List PM := [.c (.dat (.int .i64))]
abbrev X : Type := ((((List Int) × (Int × Int)) × Unit) × (Int × Unit))
abbrev R : Type := (Int × Unit) × ((((List Int) × (Int × Int)) × Unit) × Unit)
abbrev Y : Type := Option R
noncomputable def T : Tbl := tbl [(42, [⟨F42.ps, F42.rs, F42.den⟩])]
noncomputable def c : Code := codeOf Try.f23
noncomputable def la : Nat → Option LAnn := fun k => lookL [] k
noncomputable def fin : Exit → St → Y := retK (finish Try.prog ps rs [.tmp 4])
noncomputable def O : Ora R := ora []
theorem lt_eq : ltOf Try.prog T 37 [0] la c fin = ltv (O) c := by kernel_rfl
noncomputable def d0 (x : X) : Y := (if (decide ((x.2.1 : Int) ≤ 0)) = true then (some ((0, ()), ((x.1.1, ()), ()))) else (if (decide ((x.2.1 : Int) ≤ 256)) = true then (Option.bind (F42.den ((x.1.1, ()), ())) fun y1 => (if ((x.2.1 : Int) != 0) = true then (some (((Int.tmod y1.1.1 x.2.1), ()), ((y1.2.1.1, ()), ()))) else none)) else (Option.bind (F42.den ((x.1.1, ()), ())) fun y2 => (Option.bind (F42.den ((y2.2.1.1, ()), ())) fun y3 => (Option.bind (F42.den ((y3.2.1.1, ()), ())) fun y4 => (Option.bind (F42.den ((y4.2.1.1, ()), ())) fun y5 => (if ((x.2.1 : Int) != 0) = true then (some (((Int.tmod (IntKind.wrap .i64 ((IntKind.wrap .i64 ((IntKind.wrap .i64 ((IntKind.wrap .i64 (y2.1.1 * 16777216)) + (IntKind.wrap .i64 (y3.1.1 * 65536)))) + (IntKind.wrap .i64 (y4.1.1 * 256)))) + y5.1.1)) x.2.1), ()), ((y5.2.1.1, ()), ()))) else none)))))))
noncomputable def den (x : X) : Y := d0 x
theorem main_eq (x : X) : evFV Try.prog T 37 la c [.tmp 4] ps rs (ltv (O) c) x = d0 x := by kernel_rfl
theorem ok {J : World → Prop} {G : Nat} : Con Try.prog J G 23 ps rs den := by
  have hT : TblOk Try.prog J G T := (tbl_cons (by intro e he; simp only [List.mem_cons, List.not_mem_nil, or_false] at he; subst he; exact F42.ok) tbl_nil)
  exact Con.of_eq (fn_ok (fn := Try.f23) (c := c) (nt := 37) (res := [.tmp 4]) (ps := ps) (rs := rs) follows hT (by kernel_rfl) (by kernel_rfl) (by kernel_rfl) (by kernel_rfl) (by kernel_rfl) (by kernel_rfl) la) (fun x => (evFV_eq lt_eq x).trans (main_eq x))
end F23
/-! g03413/spec.l1PickInt -/
namespace F40
abbrev ps : List PM := [.ptr [.dat (.pair (.sl (.int .u8)) (.pair (.int .i64) (.int .i64)))], .c (.dat (.sl (.int .i64)))]
abbrev rs : List PM := [.c (.dat (.int .i64))]
abbrev X : Type := ((((List Int) × (Int × Int)) × Unit) × ((List Int) × Unit))
abbrev R : Type := (Int × Unit) × ((((List Int) × (Int × Int)) × Unit) × Unit)
abbrev Y : Type := Option R
noncomputable def T : Tbl := tbl [(23, [⟨F23.ps, F23.rs, F23.den⟩])]
noncomputable def c : Code := codeOf Try.f40
noncomputable def la : Nat → Option LAnn := fun k => lookL [] k
noncomputable def fin : Exit → St → Y := retK (finish Try.prog ps rs [.tmp 4])
noncomputable def O : Ora R := ora []
theorem lt_eq : ltOf Try.prog T 12 [0] la c fin = ltv (O) c := by kernel_rfl
noncomputable def d0 (x : X) : Y := (Option.bind (F23.den ((x.1.1, ()), ((((List.length x.2.1) : Nat) : Int), ()))) fun y1 => (if (decide (0 ≤ (y1.1.1 : Int)) && decide (y1.1.1 < ((List.length x.2.1 : Nat) : Int))) = true then (some (((gt (.int .i64) x.2.1 (Int.toNat y1.1.1)), ()), ((y1.2.1.1, ()), ()))) else none))
noncomputable def den (x : X) : Y := d0 x
theorem main_eq (x : X) : evFV Try.prog T 12 la c [.tmp 4] ps rs (ltv (O) c) x = d0 x := by kernel_rfl
theorem ok {J : World → Prop} {G : Nat} : Con Try.prog J G 40 ps rs den := by
  have hT : TblOk Try.prog J G T := (tbl_cons (by intro e he; simp only [List.mem_cons, List.not_mem_nil, or_false] at he; subst he; exact F23.ok) tbl_nil)
  exact Con.of_eq (fn_ok (fn := Try.f40) (c := c) (nt := 12) (res := [.tmp 4]) (ps := ps) (rs := rs) follows hT (by kernel_rfl) (by kernel_rfl) (by kernel_rfl) (by kernel_rfl) (by kernel_rfl) (by kernel_rfl) la) (fun x => (evFV_eq lt_eq x).trans (main_eq x))
end F40
/-! g03413/spec.l1Odd -/
namespace F39
abbrev ps : List PM := [.ptr [.dat (.pair (.sl (.int .u8)) (.pair (.int .i64) (.int .i64)))]]
abbrev rs : List PM := [.c (.dat (.int .i64))]
abbrev X : Type := ((((List Int) × (Int × Int)) × Unit) × Unit)
abbrev R : Type := (Int × Unit) × ((((List Int) × (Int × Int)) × Unit) × Unit)
abbrev Y : Type := Option R
noncomputable def T : Tbl := tbl [(40, [⟨F40.ps, F40.rs, F40.den⟩])]
noncomputable def c : Code := codeOf Try.f39
noncomputable def la : Nat → Option LAnn := fun k => lookL [] k
noncomputable def fin : Exit → St → Y := retK (finish Try.prog ps rs [.tmp 2])
noncomputable def O : Ora R := ora []
theorem lt_eq : ltOf Try.prog T 6 [0] la c fin = ltv (O) c := by kernel_rfl
noncomputable def d0 (x : X) : Y := (Option.bind (F40.den ((x.1.1, ()), ([0, 1, (-1), 2, 400000000, (-400000000), 400000001, (-400000001), 399999999, 9223372036854775807, (-9223372036854775808)], ()))) fun y1 => (some ((y1.1.1, ()), ((y1.2.1.1, ()), ()))))
noncomputable def den (x : X) : Y := d0 x
theorem main_eq (x : X) : evFV Try.prog T 6 la c [.tmp 2] ps rs (ltv (O) c) x = d0 x := by kernel_rfl
theorem ok {J : World → Prop} {G : Nat} : Con Try.prog J G 39 ps rs den := by
  have hT : TblOk Try.prog J G T := (tbl_cons (by intro e he; simp only [List.mem_cons, List.not_mem_nil, or_false] at he; subst he; exact F40.ok) tbl_nil)
  exact Con.of_eq (fn_ok (fn := Try.f39) (c := c) (nt := 6) (res := [.tmp 2]) (ps := ps) (rs := rs) follows hT (by kernel_rfl) (by kernel_rfl) (by kernel_rfl) (by kernel_rfl) (by kernel_rfl) (by kernel_rfl) la) (fun x => (evFV_eq lt_eq x).trans (main_eq x))
end F39
/-! g03413/spec.l2Any -/
namespace F21
abbrev ps : List PM := [.ptr [.dat (.pair (.sl (.int .u8)) (.pair (.int .i64) (.int .i64)))]]
abbrev rs : List PM := [.agg [.dat (.pair (.int .i64) (.int .i64))]]
abbrev X : Type := ((((List Int) × (Int × Int)) × Unit) × Unit)
abbrev R : Type := (((Int × Int) × Unit) × Unit) × ((((List Int) × (Int × Int)) × Unit) × Unit)
abbrev Y : Type := Option R
noncomputable def T : Tbl := tbl [(22, [⟨F22.ps, F22.rs, F22.den⟩]), (23, [⟨F23.ps, F23.rs, F23.den⟩]), (39, [⟨F39.ps, F39.rs, F39.den⟩]), (40, [⟨F40.ps, F40.rs, F40.den⟩])]
noncomputable def c : Code := codeOf Try.f21
noncomputable def la : Nat → Option LAnn := fun k => lookL [] k
noncomputable def fin : Exit → St → Y := retK (finish Try.prog ps rs [.cell 2 26])
noncomputable def O : Ora R := ora []
theorem lt_eq : ltOf Try.prog T 31 [0] la c fin = ltv (O) c := by kernel_rfl
noncomputable def d0 (x : X) : Y := (Option.bind (F23.den ((x.1.1, ()), (12, ()))) fun y1 => (if ((y1.1.1 : Int) == 0) = true then (some ((((0, 0), ()), ()), ((y1.2.1.1, ()), ()))) else (if ((y1.1.1 : Int) == 1) = true then (Option.bind (F39.den ((y1.2.1.1, ()), ())) fun y2 => (Option.bind (F40.den ((y2.2.1.1, ()), ([1, 2, 400000000, (-1), 4], ()))) fun y3 => (some ((((y2.1.1, y3.1.1), ()), ()), ((y3.2.1.1, ()), ()))))) else (if ((y1.1.1 : Int) == 2) = true then (Option.bind (F23.den ((y1.2.1.1, ()), (400000000, ()))) fun y4 => (Option.bind (F23.den ((y4.2.1.1, ()), (400000000, ()))) fun y5 => (Option.bind (F22.den (y4.1.1, ((IntKind.wrap .i64 (1 + y5.1.1)), ()))) fun y6 => (some (((y6.1.1.1, ()), ()), ((y5.2.1.1, ()), ())))))) else (Option.bind (F23.den ((y1.2.1.1, ()), (41, ()))) fun y7 => (Option.bind (F23.den ((y7.2.1.1, ()), (12, ()))) fun y8 => (Option.bind (F22.den ((IntKind.wrap .i64 (y7.1.1 - 20)), ((IntKind.wrap .i64 (1 + y8.1.1)), ()))) fun y9 => (some (((y9.1.1.1, ()), ()), ((y8.2.1.1, ()), ()))))))))))
noncomputable def den (x : X) : Y := d0 x
theorem main_eq (x : X) : evFV Try.prog T 31 la c [.cell 2 26] ps rs (ltv (O) c) x = d0 x := by kernel_rfl
theorem ok {J : World → Prop} {G : Nat} : Con Try.prog J G 21 ps rs den := by
  have hT : TblOk Try.prog J G T := (tbl_cons (by intro e he; simp only [List.mem_cons, List.not_mem_nil, or_false] at he; subst he; exact F22.ok) (tbl_cons (by intro e he; simp only [List.mem_cons, List.not_mem_nil, or_false] at he; subst he; exact F23.ok) (tbl_cons (by intro e he; simp only [List.mem_cons, List.not_mem_nil, or_false] at he; subst he; exact F39.ok) (tbl_cons (by intro e he; simp only [List.mem_cons, List.not_mem_nil, or_false] at he; subst he; exact F40.ok) tbl_nil))))
  exact Con.of_eq (fn_ok (fn := Try.f21) (c := c) (nt := 31) (res := [.cell 2 26]) (ps := ps) (rs := rs) follows hT (by kernel_rfl) (by kernel_rfl) (by kernel_rfl) (by kernel_rfl) (by kernel_rfl) (by kernel_rfl) la) (fun x => (evFV_eq lt_eq x).trans (main_eq x))
end F21
/-! g03413/spec.l1Whole -/
namespace F37
abbrev ps : List PM := [.c (.dat (.int .i64))]
abbrev rs : List PM := [.agg [.dat (.pair (.int .i64) (.int .i64))]]
abbrev X : Type := (Int × Unit)
abbrev R : Type := (((Int × Int) × Unit) × Unit) × Unit
abbrev Y : Type := Option R
noncomputable def T : Tbl := tbl []
noncomputable def c : Code := codeOf Try.f37
noncomputable def la : Nat → Option LAnn := fun k => lookL [] k
noncomputable def fin : Exit → St → Y := retK (finish Try.prog ps rs [.cell 2 26])
noncomputable def O : Ora R := ora []
theorem lt_eq : ltOf Try.prog T 5 [] la c fin = ltv (O) c := by kernel_rfl
noncomputable def d0 (x : X) : Y := (some ((((x.1, 1), ()), ()), ()))
noncomputable def den (x : X) : Y := d0 x
theorem main_eq (x : X) : evFV Try.prog T 5 la c [.cell 2 26] ps rs (ltv (O) c) x = d0 x := by kernel_rfl
theorem ok {J : World → Prop} {G : Nat} : Con Try.prog J G 37 ps rs den := by
  have hT : TblOk Try.prog J G T := tbl_nil
  exact Con.of_eq (fn_ok (fn := Try.f37) (c := c) (nt := 5) (res := [.cell 2 26]) (ps := ps) (rs := rs) follows hT (by kernel_rfl) (by kernel_rfl) (by kernel_rfl) (by kernel_rfl) (by kernel_rfl) (by kernel_rfl) la) (fun x => (evFV_eq lt_eq x).trans (main_eq x))
end F37
/-! g03413/spec.l1Once -/
namespace F38
abbrev ps : List PM := [.ptr [.dat (.pair (.sl (.int .u8)) (.pair (.int .i64) (.int .i64)))], .c (.dat (.int .i64))]
abbrev rs : List PM := [.c (.dat .bool)]
abbrev X : Type := ((((List Int) × (Int × Int)) × Unit) × (Int × Unit))
abbrev R : Type := (Bool × Unit) × ((((List Int) × (Int × Int)) × Unit) × Unit)
abbrev Y : Type := Option R
noncomputable def T : Tbl := tbl [(23, [⟨F23.ps, F23.rs, F23.den⟩])]
noncomputable def c : Code := codeOf Try.f38
noncomputable def la : Nat → Option LAnn := fun k => lookL [] k
noncomputable def fin : Exit → St → Y := retK (finish Try.prog ps rs [.tmp 4])
noncomputable def O : Ora R := ora []
theorem lt_eq : ltOf Try.prog T 9 [0] la c fin = ltv (O) c := by kernel_rfl
noncomputable def d0 (x : X) : Y := (Option.bind (F23.den ((x.1.1, ()), (x.2.1, ()))) fun y1 => (some ((((y1.1.1 : Int) == 0), ()), ((y1.2.1.1, ()), ()))))
noncomputable def den (x : X) : Y := d0 x
theorem main_eq (x : X) : evFV Try.prog T 9 la c [.tmp 4] ps rs (ltv (O) c) x = d0 x := by kernel_rfl
theorem ok {J : World → Prop} {G : Nat} : Con Try.prog J G 38 ps rs den := by
  have hT : TblOk Try.prog J G T := (tbl_cons (by intro e he; simp only [List.mem_cons, List.not_mem_nil, or_false] at he; subst he; exact F23.ok) tbl_nil)
  exact Con.of_eq (fn_ok (fn := Try.f38) (c := c) (nt := 9) (res := [.tmp 4]) (ps := ps) (rs := rs) follows hT (by kernel_rfl) (by kernel_rfl) (by kernel_rfl) (by kernel_rfl) (by kernel_rfl) (by kernel_rfl) la) (fun x => (evFV_eq lt_eq x).trans (main_eq x))
end F38
/-! g03413/spec.l8Track -/
namespace F20
abbrev ps : List PM := [.ptr [.dat (.pair (.sl (.int .u8)) (.pair (.int .i64) (.int .i64)))]]
abbrev rs : List PM := [.c (.own true (.pair (.pair (.int .i64) (.int .i64)) (.pair (.pair (.int .i64) (.int .i64)) (.pair (.int .i64) (.int .i64)))))]
abbrev X : Type := ((((List Int) × (Int × Int)) × Unit) × Unit)
abbrev R : Type := ((List ((Int × Int) × ((Int × Int) × (Int × Int)))) × Unit) × ((((List Int) × (Int × Int)) × Unit) × Unit)
abbrev Y : Type := Option R
noncomputable def T : Tbl := tbl [(21, [⟨F21.ps, F21.rs, F21.den⟩]), (22, [⟨F22.ps, F22.rs, F22.den⟩]), (23, [⟨F23.ps, F23.rs, F23.den⟩]), (37, [⟨F37.ps, F37.rs, F37.den⟩]), (38, [⟨F38.ps, F38.rs, F38.den⟩])]
noncomputable def c : Code := codeOf Try.f20
abbrev X0 : Type := ((((List Int) × (Int × Int)) × Unit) × ((List ((Int × Int) × ((Int × Int) × (Int × Int)))) × (Int × (Int × Unit))))
noncomputable def a0 : LAnn := ⟨[0, 3, 4, 5], [.ptr [.dat (.pair (.sl (.int .u8)) (.pair (.int .i64) (.int .i64)))], .c (.own false (.pair (.pair (.int .i64) (.int .i64)) (.pair (.pair (.int .i64) (.int .i64)) (.pair (.int .i64) (.int .i64))))), .c (.dat (.int .i64)), .c (.dat (.int .i64))]⟩
noncomputable def la : Nat → Option LAnn := fun k => lookL [(4, a0)] k
noncomputable def fin : Exit → St → Y := retK (finish Try.prog ps rs [.tmp 2])
noncomputable def O (l0 : X0 → Y) : Ora R := ora [(4, ⟨a0, l0⟩)]
noncomputable def c0 : Code := atP c [1, 1, 1, 0, 1, 0, 0]
noncomputable def k0 : Exit → St → Y := kAt Try.prog T 43 [0] la c [1, 1, 1, 0, 1, 0] fin
noncomputable def kD0 (l0 : X0 → Y) : Exit → St → Y := kAtD Try.prog T 43 [0] la c [1, 1, 1, 0, 1, 0] (ltv (O l0) c) fin
noncomputable def w0 : Nat → X0 → Y := lpAt Try.prog T 43 [0] la a0 c0 k0
noncomputable def O0 : Ora R := ora []
theorem lt_eq : ltOf Try.prog T 43 [0] la c fin = ltv (O (w0 big)) c := by kernel_rfl
theorem lt0_eq (r0 : X0 → Y) : ltOf Try.prog T 43 [0] la c0 (contOf a0 k0 r0) = ltv (O0) c0 := by kernel_rfl
theorem kD0_eq : k0 = kD0 (w0 big) := contV_eq rfl lt_eq
noncomputable def b0 (r0 : X0 → Y) (x : X0) : Y := (if (decide ((x.2.2.2.1 : Int) > 0)) = true then (Option.bind (F22.den (x.2.2.1, (2, ()))) fun y3 => (Option.bind (F23.den ((x.1.1, ()), (9, ()))) fun y4 => (Option.bind (F37.den ((IntKind.wrap .i64 (y4.1.1 - 4)), ())) fun y5 => (Option.bind (F23.den ((y4.2.1.1, ()), (9, ()))) fun y6 => (Option.bind (F37.den ((IntKind.wrap .i64 (y6.1.1 - 4)), ())) fun y7 => (if (decide (List.length x.2.1 + List.length [(y3.1.1.1, (y5.1.1.1, y7.1.1.1))] ≤ cap36)) = true then (Option.bind (F23.den ((y6.2.1.1, ()), (4, ()))) fun y8 => (r0 ((y8.2.1.1, ()), ((x.2.1 ++ [(y3.1.1.1, (y5.1.1.1, y7.1.1.1))]), ((IntKind.wrap .i64 ((IntKind.wrap .i64 (x.2.2.1 + 1)) + y8.1.1)), ((IntKind.wrap .i64 (x.2.2.2.1 - 1)), ())))))) else none)))))) else (Option.bind (F38.den ((x.1.1, ()), (24, ()))) fun y9 => (if y9.1.1 = true then (Option.bind (F21.den ((y9.2.1.1, ()), ())) fun y10 => (if (decide (0 ≤ (0 : Int)) && decide (0 < ((List.length x.2.1 : Nat) : Int))) = true then (some (((List.set x.2.1 (Int.toNat 0) (y10.1.1.1, (gt (.pair (.pair (.int .i64) (.int .i64)) (.pair (.pair (.int .i64) (.int .i64)) (.pair (.int .i64) (.int .i64)))) x.2.1 (Int.toNat 0)).2)), ()), ((y10.2.1.1, ()), ()))) else none)) else (some ((x.2.1, ()), ((y9.2.1.1, ()), ()))))))
noncomputable def B0 (r0 : X0 → Y) (x : X0) : Y := b0 r0 x
noncomputable def L0 : Nat → X0 → Y := itr B0
theorem rnd0 (l0 : X0 → Y) (r0 : X0 → Y) (x : X0) : rndV Try.prog T 43 [0] la a0 c0 (ltv (O0) c0) (kD0 l0) r0 x = b0 r0 x := by kernel_rfl
theorem rd0 (r0 : X0 → Y) (x : X0) : rndAt Try.prog T 43 [0] la a0 c0 k0 r0 x = B0 r0 x :=
  have h : rndAt Try.prog T 43 [0] la a0 c0 k0 r0 x = rndV Try.prog T 43 [0] la a0 c0 (ltv (O0) c0) (kD0 (w0 big)) r0 x := rndV_eq (ann := a0) kD0_eq (lt0_eq r0) x
  h.trans (rnd0 (w0 big) r0 x)
theorem w0_eq : w0 = L0 := by exact lp_itr (P := Try.prog) (Δ := T) (nt := 43) (fp := [0]) (la := la) (R := R) (ann := a0) (body := c0) (K := k0) (B := B0) (fun r0 x => rd0 r0 x)
noncomputable def d0 (l0 : X0 → Y) (x : X) : Y := (Option.bind (F23.den ((x.1.1, ()), (4, ()))) fun y1 => (Option.bind (F23.den ((y1.2.1.1, ()), (3, ()))) fun y2 => (l0 ((y2.2.1.1, ()), (([] : List ((Int × Int) × ((Int × Int) × (Int × Int)))), (y1.1.1, ((IntKind.wrap .i64 (1 + y2.1.1)), ())))))))
noncomputable def den (x : X) : Y := d0 (L0 big) x
theorem main_eq (l0 : X0 → Y) (x : X) : evFV Try.prog T 43 la c [.tmp 2] ps rs (ltv (O l0) c) x = d0 l0 x := by kernel_rfl
theorem ok {J : World → Prop} {G : Nat} : Con Try.prog J G 20 ps rs den := by
  have hT : TblOk Try.prog J G T := (tbl_cons (by intro e he; simp only [List.mem_cons, List.not_mem_nil, or_false] at he; subst he; exact F21.ok) (tbl_cons (by intro e he; simp only [List.mem_cons, List.not_mem_nil, or_false] at he; subst he; exact F22.ok) (tbl_cons (by intro e he; simp only [List.mem_cons, List.not_mem_nil, or_false] at he; subst he; exact F23.ok) (tbl_cons (by intro e he; simp only [List.mem_cons, List.not_mem_nil, or_false] at he; subst he; exact F37.ok) (tbl_cons (by intro e he; simp only [List.mem_cons, List.not_mem_nil, or_false] at he; subst he; exact F38.ok) tbl_nil)))))
  exact Con.of_eq (fn_ok (fn := Try.f20) (c := c) (nt := 43) (res := [.tmp 2]) (ps := ps) (rs := rs) follows hT (by kernel_rfl) (by kernel_rfl) (by kernel_rfl) (by kernel_rfl) (by kernel_rfl) (by kernel_rfl) la) (fun x => (evFV_eq lt_eq x).trans ((main_eq (w0 big) x).trans (by rw [w0_eq]; rfl)))
end F20
/-! g03413/spec.DrawMoveTrack -/
namespace F6
abbrev ps : List PM := [.c (.dat (.sl (.int .u8)))]
abbrev rs : List PM := [.c (.own true (.pair (.pair (.int .i64) (.int .i64)) (.pair (.pair (.int .i64) (.int .i64)) (.pair (.int .i64) (.int .i64))))), .agg [.dat (.pair (.int .i64) (.int .i64))], .agg [.dat (.pair (.int .i64) (.int .i64))], .agg [.dat (.pair (.int .i64) (.int .i64))]]
abbrev X : Type := ((List Int) × Unit)
abbrev R : Type := ((List ((Int × Int) × ((Int × Int) × (Int × Int)))) × (((Int × Int) × Unit) × (((Int × Int) × Unit) × (((Int × Int) × Unit) × Unit)))) × Unit
abbrev Y : Type := Option R
noncomputable def T : Tbl := tbl [(19, [⟨F19.ps, F19.rs, F19.den⟩]), (20, [⟨F20.ps, F20.rs, F20.den⟩]), (21, [⟨F21.ps, F21.rs, F21.den⟩]), (22, [⟨F22.ps, F22.rs, F22.den⟩]), (23, [⟨F23.ps, F23.rs, F23.den⟩])]
noncomputable def c : Code := codeOf Try.f6
noncomputable def la : Nat → Option LAnn := fun k => lookL [] k
noncomputable def fin : Exit → St → Y := retK (finish Try.prog ps rs [.tmp 2, .cell 3 26, .cell 4 26, .cell 5 26])
noncomputable def O : Ora R := ora []
theorem lt_eq : ltOf Try.prog T 18 [] la c fin = ltv (O) c := by kernel_rfl
noncomputable def d0 (x : X) : Y := (Option.bind (F19.den (x.1, ())) fun y1 => (Option.bind (F20.den ((y1.1.1.1, ()), ())) fun y2 => (Option.bind (F21.den ((y2.2.1.1, ()), ())) fun y3 => (Option.bind (F21.den ((y3.2.1.1, ()), ())) fun y4 => (Option.bind (F23.den ((y4.2.1.1, ()), (5, ()))) fun y5 => (Option.bind (F22.den (y5.1.1, (2, ()))) fun y6 => (some ((y2.1.1, ((y3.1.1.1, ()), ((y4.1.1.1, ()), ((y6.1.1.1, ()), ())))), ()))))))))
noncomputable def den (x : X) : Y := d0 x
theorem main_eq (x : X) : evFV Try.prog T 18 la c [.tmp 2, .cell 3 26, .cell 4 26, .cell 5 26] ps rs (ltv (O) c) x = d0 x := by kernel_rfl
theorem ok {J : World → Prop} {G : Nat} : Con Try.prog J G 6 ps rs den := by
  have hT : TblOk Try.prog J G T := (tbl_cons (by intro e he; simp only [List.mem_cons, List.not_mem_nil, or_false] at he; subst he; exact F19.ok) (tbl_cons (by intro e he; simp only [List.mem_cons, List.not_mem_nil, or_false] at he; subst he; exact F20.ok) (tbl_cons (by intro e he; simp only [List.mem_cons, List.not_mem_nil, or_false] at he; subst he; exact F21.ok) (tbl_cons (by intro e he; simp only [List.mem_cons, List.not_mem_nil, or_false] at he; subst he; exact F22.ok) (tbl_cons (by intro e he; simp only [List.mem_cons, List.not_mem_nil, or_false] at he; subst he; exact F23.ok) tbl_nil)))))
  exact Con.of_eq (fn_ok (fn := Try.f6) (c := c) (nt := 18) (res := [.tmp 2, .cell 3 26, .cell 4 26, .cell 5 26]) (ps := ps) (rs := rs) follows hT (by kernel_rfl) (by kernel_rfl) (by kernel_rfl) (by kernel_rfl) (by kernel_rfl) (by kernel_rfl) la) (fun x => (evFV_eq lt_eq x).trans (main_eq x))
end F6
/-! g03413/impl.IsNumber -/
namespace F45
abbrev ps : List PM := [.c (.dat (.int .i64))]
abbrev rs : List PM := [.c (.dat .bool)]
abbrev X : Type := (Int × Unit)
abbrev R : Type := (Bool × Unit) × Unit
abbrev Y : Type := Option R
noncomputable def T : Tbl := tbl []
noncomputable def c : Code := codeOf Try.f45
noncomputable def la : Nat → Option LAnn := fun k => lookL [] k
noncomputable def fin : Exit → St → Y := retK (finish Try.prog ps rs [.tmp 2])
noncomputable def O : Ora R := ora []
theorem lt_eq : ltOf Try.prog T 9 [] la c fin = ltv (O) c := by kernel_rfl
noncomputable def d0 (x : X) : Y := (if (decide ((x.1 : Int) ≥ (-400000000))) = true then (some (((decide ((x.1 : Int) ≤ 400000000)), ()), ())) else (some ((false, ()), ())))
noncomputable def den (x : X) : Y := d0 x
theorem main_eq (x : X) : evFV Try.prog T 9 la c [.tmp 2] ps rs (ltv (O) c) x = d0 x := by kernel_rfl
theorem ok {J : World → Prop} {G : Nat} : Con Try.prog J G 45 ps rs den := by
  have hT : TblOk Try.prog J G T := tbl_nil
  exact Con.of_eq (fn_ok (fn := Try.f45) (c := c) (nt := 9) (res := [.tmp 2]) (ps := ps) (rs := rs) follows hT (by kernel_rfl) (by kernel_rfl) (by kernel_rfl) (by kernel_rfl) (by kernel_rfl) (by kernel_rfl) la) (fun x => (evFV_eq lt_eq x).trans (main_eq x))
end F45
/-! g03413/impl.absolute -/
namespace F34
abbrev ps : List PM := [.c (.dat (.int .i64))]
abbrev rs : List PM := [.c (.dat (.int .i64))]
abbrev X : Type := (Int × Unit)
abbrev R : Type := (Int × Unit) × Unit
abbrev Y : Type := Option R
noncomputable def T : Tbl := tbl []
noncomputable def c : Code := codeOf Try.f34
noncomputable def la : Nat → Option LAnn := fun k => lookL [] k
noncomputable def fin : Exit → St → Y := retK (finish Try.prog ps rs [.tmp 2])
noncomputable def O : Ora R := ora []
theorem lt_eq : ltOf Try.prog T 8 [] la c fin = ltv (O) c := by kernel_rfl
noncomputable def d0 (x : X) : Y := (if (decide ((x.1 : Int) < 0)) = true then (some (((IntKind.wrap .i64 (0 - x.1)), ()), ())) else (some ((x.1, ()), ())))
noncomputable def den (x : X) : Y := d0 x
theorem main_eq (x : X) : evFV Try.prog T 8 la c [.tmp 2] ps rs (ltv (O) c) x = d0 x := by kernel_rfl
theorem ok {J : World → Prop} {G : Nat} : Con Try.prog J G 34 ps rs den := by
  have hT : TblOk Try.prog J G T := tbl_nil
  exact Con.of_eq (fn_ok (fn := Try.f34) (c := c) (nt := 8) (res := [.tmp 2]) (ps := ps) (rs := rs) follows hT (by kernel_rfl) (by kernel_rfl) (by kernel_rfl) (by kernel_rfl) (by kernel_rfl) (by kernel_rfl) la) (fun x => (evFV_eq lt_eq x).trans (main_eq x))
end F34
/-! g03413/impl.commonDivisor -/
namespace F54
abbrev ps : List PM := [.c (.dat (.int .i64)), .c (.dat (.int .i64))]
abbrev rs : List PM := [.c (.dat (.int .i64))]
abbrev X : Type := (Int × (Int × Unit))
abbrev R : Type := (Int × Unit) × Unit
abbrev Y : Type := Option R
noncomputable def T : Tbl := tbl [(34, [⟨F34.ps, F34.rs, F34.den⟩])]
noncomputable def c : Code := codeOf Try.f54
abbrev X0 : Type := (Int × (Int × Unit))
noncomputable def a0 : LAnn := ⟨[0, 1], [.c (.dat (.int .i64)), .c (.dat (.int .i64))]⟩
noncomputable def la : Nat → Option LAnn := fun k => lookL [(2, a0)] k
noncomputable def fin : Exit → St → Y := retK (finish Try.prog ps rs [.tmp 4])
noncomputable def O (l0 : X0 → Y) : Ora R := ora [(2, ⟨a0, l0⟩)]
noncomputable def c0 : Code := atP c [1, 1, 0, 0, 0]
noncomputable def k0 : Exit → St → Y := kAt Try.prog T 16 [] la c [1, 1, 0, 0] fin
noncomputable def kD0 (l0 : X0 → Y) : Exit → St → Y := kAtD Try.prog T 16 [] la c [1, 1, 0, 0] (ltv (O l0) c) fin
noncomputable def w0 : Nat → X0 → Y := lpAt Try.prog T 16 [] la a0 c0 k0
noncomputable def O0 : Ora R := ora []
theorem lt_eq : ltOf Try.prog T 16 [] la c fin = ltv (O (w0 big)) c := by kernel_rfl
theorem lt0_eq (r0 : X0 → Y) : ltOf Try.prog T 16 [] la c0 (contOf a0 k0 r0) = ltv (O0) c0 := by kernel_rfl
theorem kD0_eq : k0 = kD0 (w0 big) := contV_eq rfl lt_eq
noncomputable def b0 (r0 : X0 → Y) (x : X0) : Y := (if ((x.2.1 : Int) != 0) = true then (if ((x.2.1 : Int) != 0) = true then (r0 (x.2.1, ((Int.tmod x.1 x.2.1), ()))) else none) else (some ((x.1, ()), ())))
noncomputable def B0 (r0 : X0 → Y) (x : X0) : Y := b0 r0 x
noncomputable def L0 : Nat → X0 → Y := itr B0
theorem rnd0 (l0 : X0 → Y) (r0 : X0 → Y) (x : X0) : rndV Try.prog T 16 [] la a0 c0 (ltv (O0) c0) (kD0 l0) r0 x = b0 r0 x := by kernel_rfl
theorem rd0 (r0 : X0 → Y) (x : X0) : rndAt Try.prog T 16 [] la a0 c0 k0 r0 x = B0 r0 x :=
  have h : rndAt Try.prog T 16 [] la a0 c0 k0 r0 x = rndV Try.prog T 16 [] la a0 c0 (ltv (O0) c0) (kD0 (w0 big)) r0 x := rndV_eq (ann := a0) kD0_eq (lt0_eq r0) x
  h.trans (rnd0 (w0 big) r0 x)
theorem w0_eq : w0 = L0 := by exact lp_itr (P := Try.prog) (Δ := T) (nt := 16) (fp := []) (la := la) (R := R) (ann := a0) (body := c0) (K := k0) (B := B0) (fun r0 x => rd0 r0 x)
noncomputable def d0 (l0 : X0 → Y) (x : X) : Y := (Option.bind (F34.den (x.1, ())) fun y1 => (Option.bind (F34.den (x.2.1, ())) fun y2 => (l0 (y1.1.1, (y2.1.1, ())))))
noncomputable def den (x : X) : Y := d0 (L0 big) x
theorem main_eq (l0 : X0 → Y) (x : X) : evFV Try.prog T 16 la c [.tmp 4] ps rs (ltv (O l0) c) x = d0 l0 x := by kernel_rfl
theorem ok {J : World → Prop} {G : Nat} : Con Try.prog J G 54 ps rs den := by
  have hT : TblOk Try.prog J G T := (tbl_cons (by intro e he; simp only [List.mem_cons, List.not_mem_nil, or_false] at he; subst he; exact F34.ok) tbl_nil)
  exact Con.of_eq (fn_ok (fn := Try.f54) (c := c) (nt := 16) (res := [.tmp 4]) (ps := ps) (rs := rs) follows hT (by kernel_rfl) (by kernel_rfl) (by kernel_rfl) (by kernel_rfl) (by kernel_rfl) (by kernel_rfl) la) (fun x => (evFV_eq lt_eq x).trans ((main_eq (w0 big) x).trans (by rw [w0_eq]; rfl)))
end F54
/-! g03413/impl.GcdOf -/
namespace F46
abbrev ps : List PM := [.c (.dat (.int .i64)), .c (.dat (.int .i64))]
abbrev rs : List PM := [.c (.dat (.int .i64))]
abbrev X : Type := (Int × (Int × Unit))
abbrev R : Type := (Int × Unit) × Unit
abbrev Y : Type := Option R
noncomputable def T : Tbl := tbl [(45, [⟨F45.ps, F45.rs, F45.den⟩]), (54, [⟨F54.ps, F54.rs, F54.den⟩])]
noncomputable def c : Code := codeOf Try.f46
noncomputable def la : Nat → Option LAnn := fun k => lookL [] k
noncomputable def fin : Exit → St → Y := retK (finish Try.prog ps rs [.tmp 4])
noncomputable def O : Ora R := ora []
theorem lt_eq : ltOf Try.prog T 16 [] la c fin = ltv (O) c := by kernel_rfl
noncomputable def d0 (x : X) : Y := (Option.bind (F45.den (x.1, ())) fun y1 => (if (!y1.1.1) = false then (Option.bind (F45.den (x.2.1, ())) fun y2 => (if (!y2.1.1) = true then (some ((0, ()), ())) else (Option.bind (F54.den (x.1, (x.2.1, ()))) fun y3 => (some ((y3.1.1, ()), ()))))) else (some ((0, ()), ()))))
noncomputable def den (x : X) : Y := d0 x
theorem main_eq (x : X) : evFV Try.prog T 16 la c [.tmp 4] ps rs (ltv (O) c) x = d0 x := by kernel_rfl
theorem ok {J : World → Prop} {G : Nat} : Con Try.prog J G 46 ps rs den := by
  have hT : TblOk Try.prog J G T := (tbl_cons (by intro e he; simp only [List.mem_cons, List.not_mem_nil, or_false] at he; subst he; exact F45.ok) (tbl_cons (by intro e he; simp only [List.mem_cons, List.not_mem_nil, or_false] at he; subst he; exact F54.ok) tbl_nil))
  exact Con.of_eq (fn_ok (fn := Try.f46) (c := c) (nt := 16) (res := [.tmp 4]) (ps := ps) (rs := rs) follows hT (by kernel_rfl) (by kernel_rfl) (by kernel_rfl) (by kernel_rfl) (by kernel_rfl) (by kernel_rfl) la) (fun x => (evFV_eq lt_eq x).trans (main_eq x))
end F46
/-! g03413/impl.IsRatio -/
namespace F27
abbrev ps : List PM := [.agg [.dat (.pair (.int .i64) (.int .i64))]]
abbrev rs : List PM := [.c (.dat .bool)]
abbrev X : Type := (((Int × Int) × Unit) × Unit)
abbrev R : Type := (Bool × Unit) × Unit
abbrev Y : Type := Option R
noncomputable def T : Tbl := tbl [(45, [⟨F45.ps, F45.rs, F45.den⟩]), (46, [⟨F46.ps, F46.rs, F46.den⟩])]
noncomputable def c : Code := codeOf Try.f27
noncomputable def la : Nat → Option LAnn := fun k => lookL [] k
noncomputable def fin : Exit → St → Y := retK (finish Try.prog ps rs [.tmp 2])
noncomputable def O : Ora R := ora []
theorem lt_eq : ltOf Try.prog T 24 [] la c fin = ltv (O) c := by kernel_rfl
noncomputable def d0 (x : X) : Y := (if (decide ((x.1.1.2 : Int) ≥ 1)) = true then (if (decide ((x.1.1.2 : Int) ≤ 400000000)) = true then (Option.bind (F45.den (x.1.1.1, ())) fun y1 => (if y1.1.1 = true then (Option.bind (F46.den (x.1.1.1, (x.1.1.2, ()))) fun y2 => (some ((((y2.1.1 : Int) == 1), ()), ()))) else (some ((false, ()), ())))) else (some ((false, ()), ()))) else (some ((false, ()), ())))
noncomputable def den (x : X) : Y := d0 x
theorem main_eq (x : X) : evFV Try.prog T 24 la c [.tmp 2] ps rs (ltv (O) c) x = d0 x := by kernel_rfl
theorem ok {J : World → Prop} {G : Nat} : Con Try.prog J G 27 ps rs den := by
  have hT : TblOk Try.prog J G T := (tbl_cons (by intro e he; simp only [List.mem_cons, List.not_mem_nil, or_false] at he; subst he; exact F45.ok) (tbl_cons (by intro e he; simp only [List.mem_cons, List.not_mem_nil, or_false] at he; subst he; exact F46.ok) tbl_nil))
  exact Con.of_eq (fn_ok (fn := Try.f27) (c := c) (nt := 24) (res := [.tmp 2]) (ps := ps) (rs := rs) follows hT (by kernel_rfl) (by kernel_rfl) (by kernel_rfl) (by kernel_rfl) (by kernel_rfl) (by kernel_rfl) la) (fun x => (evFV_eq lt_eq x).trans (main_eq x))
end F27
/-! g03413/impl.CompareRatios -/
namespace F17
abbrev ps : List PM := [.agg [.dat (.pair (.int .i64) (.int .i64))], .agg [.dat (.pair (.int .i64) (.int .i64))]]
abbrev rs : List PM := [.c (.dat (.int .i64))]
abbrev X : Type := (((Int × Int) × Unit) × (((Int × Int) × Unit) × Unit))
abbrev R : Type := (Int × Unit) × Unit
abbrev Y : Type := Option R
noncomputable def T : Tbl := tbl [(27, [⟨F27.ps, F27.rs, F27.den⟩])]
noncomputable def c : Code := codeOf Try.f17
noncomputable def la : Nat → Option LAnn := fun k => lookL [] k
noncomputable def fin : Exit → St → Y := retK (finish Try.prog ps rs [.tmp 4])
noncomputable def O : Ora R := ora []
theorem lt_eq : ltOf Try.prog T 31 [] la c fin = ltv (O) c := by kernel_rfl
noncomputable def d0 (x : X) : Y := (Option.bind (F27.den ((x.1.1, ()), ())) fun y1 => (if (!y1.1.1) = false then (Option.bind (F27.den ((x.2.1.1, ()), ())) fun y2 => (if (!y2.1.1) = true then (some ((2, ()), ())) else (if (decide (((IntKind.wrap .i64 (x.1.1.1 * x.2.1.1.2)) : Int) < (IntKind.wrap .i64 (x.2.1.1.1 * x.1.1.2)))) = true then (some (((-1), ()), ())) else (if (decide (((IntKind.wrap .i64 (x.1.1.1 * x.2.1.1.2)) : Int) > (IntKind.wrap .i64 (x.2.1.1.1 * x.1.1.2)))) = true then (some ((1, ()), ())) else (some ((0, ()), ())))))) else (some ((2, ()), ()))))
noncomputable def den (x : X) : Y := d0 x
theorem main_eq (x : X) : evFV Try.prog T 31 la c [.tmp 4] ps rs (ltv (O) c) x = d0 x := by kernel_rfl
theorem ok {J : World → Prop} {G : Nat} : Con Try.prog J G 17 ps rs den := by
  have hT : TblOk Try.prog J G T := (tbl_cons (by intro e he; simp only [List.mem_cons, List.not_mem_nil, or_false] at he; subst he; exact F27.ok) tbl_nil)
  exact Con.of_eq (fn_ok (fn := Try.f17) (c := c) (nt := 31) (res := [.tmp 4]) (ps := ps) (rs := rs) follows hT (by kernel_rfl) (by kernel_rfl) (by kernel_rfl) (by kernel_rfl) (by kernel_rfl) (by kernel_rfl) la) (fun x => (evFV_eq lt_eq x).trans (main_eq x))
end F17
/-! g03413/impl.IsTrack -/
namespace F24
abbrev ps : List PM := [.c (.dat (.sl (.pair (.pair (.int .i64) (.int .i64)) (.pair (.pair (.int .i64) (.int .i64)) (.pair (.int .i64) (.int .i64))))))]
abbrev rs : List PM := [.c (.dat .bool)]
abbrev X : Type := ((List ((Int × Int) × ((Int × Int) × (Int × Int)))) × Unit)
abbrev R : Type := (Bool × Unit) × Unit
abbrev Y : Type := Option R
noncomputable def T : Tbl := tbl [(17, [⟨F17.ps, F17.rs, F17.den⟩]), (27, [⟨F27.ps, F27.rs, F27.den⟩])]
noncomputable def c : Code := codeOf Try.f24
abbrev X0 : Type := ((List ((Int × Int) × ((Int × Int) × (Int × Int)))) × ((List ((Int × Int) × ((Int × Int) × (Int × Int)))) × (Int × (Int × Unit))))
noncomputable def a0 : LAnn := ⟨[0, 13, 14, 15], [.c (.dat (.sl (.pair (.pair (.int .i64) (.int .i64)) (.pair (.pair (.int .i64) (.int .i64)) (.pair (.int .i64) (.int .i64)))))), .c (.dat (.sl (.pair (.pair (.int .i64) (.int .i64)) (.pair (.pair (.int .i64) (.int .i64)) (.pair (.int .i64) (.int .i64)))))), .c (.dat (.int .i64)), .c (.dat (.int .i64))]⟩
noncomputable def la : Nat → Option LAnn := fun k => lookL [(4, a0)] k
noncomputable def fin : Exit → St → Y := retK (finish Try.prog ps rs [.tmp 2])
noncomputable def O (l0 : X0 → Y) : Ora R := ora [(4, ⟨a0, l0⟩)]
noncomputable def c0 : Code := atP c [1, 1, 0, 1, 0, 0]
noncomputable def k0 : Exit → St → Y := kAt Try.prog T 51 [] la c [1, 1, 0, 1, 0] fin
noncomputable def kD0 (l0 : X0 → Y) : Exit → St → Y := kAtD Try.prog T 51 [] la c [1, 1, 0, 1, 0] (ltv (O l0) c) fin
noncomputable def w0 : Nat → X0 → Y := lpAt Try.prog T 51 [] la a0 c0 k0
noncomputable def O0 : Ora R := ora []
theorem lt_eq : ltOf Try.prog T 51 [] la c fin = ltv (O (w0 big)) c := by kernel_rfl
theorem lt0_eq (r0 : X0 → Y) : ltOf Try.prog T 51 [] la c0 (contOf a0 k0 r0) = ltv (O0) c0 := by kernel_rfl
theorem kD0_eq : k0 = kD0 (w0 big) := contV_eq rfl lt_eq
noncomputable def b0 (r0 : X0 → Y) (x : X0) : Y := (if (decide ((x.2.2.2.1 : Int) < x.2.2.1)) = true then (if (decide (0 ≤ (x.2.2.2.1 : Int)) && decide (x.2.2.2.1 < ((List.length x.2.1 : Nat) : Int))) = true then (Option.bind (F27.den (((gt (.pair (.pair (.int .i64) (.int .i64)) (.pair (.pair (.int .i64) (.int .i64)) (.pair (.int .i64) (.int .i64)))) x.2.1 (Int.toNat x.2.2.2.1)).1, ()), ())) fun y1 => (if (!y1.1.1) = false then (Option.bind (F27.den (((gt (.pair (.pair (.int .i64) (.int .i64)) (.pair (.pair (.int .i64) (.int .i64)) (.pair (.int .i64) (.int .i64)))) x.2.1 (Int.toNat x.2.2.2.1)).2.1, ()), ())) fun y2 => (if (!y2.1.1) = false then (Option.bind (F27.den (((gt (.pair (.pair (.int .i64) (.int .i64)) (.pair (.pair (.int .i64) (.int .i64)) (.pair (.int .i64) (.int .i64)))) x.2.1 (Int.toNat x.2.2.2.1)).2.2, ()), ())) fun y3 => (if (!y3.1.1) = true then (some ((false, ()), ())) else (if (decide ((x.2.2.2.1 : Int) > 0)) = true then (if (decide (0 ≤ ((IntKind.wrap .i64 (x.2.2.2.1 - 1)) : Int)) && decide ((IntKind.wrap .i64 (x.2.2.2.1 - 1)) < ((List.length x.1 : Nat) : Int))) = true then (Option.bind (F17.den (((gt (.pair (.pair (.int .i64) (.int .i64)) (.pair (.pair (.int .i64) (.int .i64)) (.pair (.int .i64) (.int .i64)))) x.1 (Int.toNat (IntKind.wrap .i64 (x.2.2.2.1 - 1)))).1, ()), (((gt (.pair (.pair (.int .i64) (.int .i64)) (.pair (.pair (.int .i64) (.int .i64)) (.pair (.int .i64) (.int .i64)))) x.2.1 (Int.toNat x.2.2.2.1)).1, ()), ()))) fun y4 => (if ((y4.1.1 : Int) != (-1)) = true then (some ((false, ()), ())) else (r0 (x.1, (x.2.1, (x.2.2.1, ((IntKind.wrap .i64 (x.2.2.2.1 + 1)), ()))))))) else none) else (r0 (x.1, (x.2.1, (x.2.2.1, ((IntKind.wrap .i64 (x.2.2.2.1 + 1)), ())))))))) else (some ((false, ()), ())))) else (some ((false, ()), ())))) else none) else (some ((true, ()), ())))
noncomputable def B0 (r0 : X0 → Y) (x : X0) : Y := b0 r0 x
noncomputable def L0 : Nat → X0 → Y := itr B0
theorem rnd0 (l0 : X0 → Y) (r0 : X0 → Y) (x : X0) : rndV Try.prog T 51 [] la a0 c0 (ltv (O0) c0) (kD0 l0) r0 x = b0 r0 x := by kernel_rfl
theorem rd0 (r0 : X0 → Y) (x : X0) : rndAt Try.prog T 51 [] la a0 c0 k0 r0 x = B0 r0 x :=
  have h : rndAt Try.prog T 51 [] la a0 c0 k0 r0 x = rndV Try.prog T 51 [] la a0 c0 (ltv (O0) c0) (kD0 (w0 big)) r0 x := rndV_eq (ann := a0) kD0_eq (lt0_eq r0) x
  h.trans (rnd0 (w0 big) r0 x)
theorem w0_eq : w0 = L0 := by exact lp_itr (P := Try.prog) (Δ := T) (nt := 51) (fp := []) (la := la) (R := R) (ann := a0) (body := c0) (K := k0) (B := B0) (fun r0 x => rd0 r0 x)
noncomputable def d0 (l0 : X0 → Y) (x : X) : Y := (if (decide (((((List.length x.1) : Nat) : Int) : Int) < 1)) = false then (if (decide (((((List.length x.1) : Nat) : Int) : Int) > 6)) = true then (some ((false, ()), ())) else (l0 (x.1, (x.1, ((((List.length x.1) : Nat) : Int), (0, ())))))) else (some ((false, ()), ())))
noncomputable def den (x : X) : Y := d0 (L0 big) x
theorem main_eq (l0 : X0 → Y) (x : X) : evFV Try.prog T 51 la c [.tmp 2] ps rs (ltv (O l0) c) x = d0 l0 x := by kernel_rfl
theorem ok {J : World → Prop} {G : Nat} : Con Try.prog J G 24 ps rs den := by
  have hT : TblOk Try.prog J G T := (tbl_cons (by intro e he; simp only [List.mem_cons, List.not_mem_nil, or_false] at he; subst he; exact F17.ok) (tbl_cons (by intro e he; simp only [List.mem_cons, List.not_mem_nil, or_false] at he; subst he; exact F27.ok) tbl_nil))
  exact Con.of_eq (fn_ok (fn := Try.f24) (c := c) (nt := 51) (res := [.tmp 2]) (ps := ps) (rs := rs) follows hT (by kernel_rfl) (by kernel_rfl) (by kernel_rfl) (by kernel_rfl) (by kernel_rfl) (by kernel_rfl) la) (fun x => (evFV_eq lt_eq x).trans ((main_eq (w0 big) x).trans (by rw [w0_eq]; rfl)))
end F24
/-! g03413/impl.reducedRatio -/
namespace F43
abbrev ps : List PM := [.c (.dat (.int .i64)), .c (.dat (.int .i64))]
abbrev rs : List PM := [.agg [.dat (.pair (.int .i64) (.int .i64))]]
abbrev X : Type := (Int × (Int × Unit))
abbrev R : Type := (((Int × Int) × Unit) × Unit) × Unit
abbrev Y : Type := Option R
noncomputable def T : Tbl := tbl [(27, [⟨F27.ps, F27.rs, F27.den⟩]), (54, [⟨F54.ps, F54.rs, F54.den⟩])]
noncomputable def c : Code := codeOf Try.f43
noncomputable def la : Nat → Option LAnn := fun k => lookL [] k
noncomputable def fin : Exit → St → Y := retK (finish Try.prog ps rs [.cell 4 26])
noncomputable def O : Ora R := ora []
theorem lt_eq : ltOf Try.prog T 31 [] la c fin = ltv (O) c := by kernel_rfl
noncomputable def d0 (x : X) : Y := (if ((x.2.1 : Int) == 0) = true then (some ((((0, 0), ()), ()), ())) else (if (decide ((x.2.1 : Int) < 0)) = true then (Option.bind (F54.den ((IntKind.wrap .i64 (0 - x.1)), ((IntKind.wrap .i64 (0 - x.2.1)), ()))) fun y1 => (if ((y1.1.1 : Int) != 0) = true then (if ((y1.1.1 : Int) != 0) = true then (Option.bind (F27.den ((((IntKind.wrap .i64 (Int.tdiv (IntKind.wrap .i64 (0 - x.1)) y1.1.1)), (IntKind.wrap .i64 (Int.tdiv (IntKind.wrap .i64 (0 - x.2.1)) y1.1.1))), ()), ())) fun y2 => (if (!y2.1.1) = true then (some ((((0, 0), ()), ()), ())) else (some (((((IntKind.wrap .i64 (Int.tdiv (IntKind.wrap .i64 (0 - x.1)) y1.1.1)), (IntKind.wrap .i64 (Int.tdiv (IntKind.wrap .i64 (0 - x.2.1)) y1.1.1))), ()), ()), ())))) else none) else none)) else (Option.bind (F54.den (x.1, (x.2.1, ()))) fun y3 => (if ((y3.1.1 : Int) != 0) = true then (if ((y3.1.1 : Int) != 0) = true then (Option.bind (F27.den ((((IntKind.wrap .i64 (Int.tdiv x.1 y3.1.1)), (IntKind.wrap .i64 (Int.tdiv x.2.1 y3.1.1))), ()), ())) fun y4 => (if (!y4.1.1) = true then (some ((((0, 0), ()), ()), ())) else (some (((((IntKind.wrap .i64 (Int.tdiv x.1 y3.1.1)), (IntKind.wrap .i64 (Int.tdiv x.2.1 y3.1.1))), ()), ()), ())))) else none) else none))))
noncomputable def den (x : X) : Y := d0 x
theorem main_eq (x : X) : evFV Try.prog T 31 la c [.cell 4 26] ps rs (ltv (O) c) x = d0 x := by kernel_rfl
theorem ok {J : World → Prop} {G : Nat} : Con Try.prog J G 43 ps rs den := by
  have hT : TblOk Try.prog J G T := (tbl_cons (by intro e he; simp only [List.mem_cons, List.not_mem_nil, or_false] at he; subst he; exact F27.ok) (tbl_cons (by intro e he; simp only [List.mem_cons, List.not_mem_nil, or_false] at he; subst he; exact F54.ok) tbl_nil))
  exact Con.of_eq (fn_ok (fn := Try.f43) (c := c) (nt := 31) (res := [.cell 4 26]) (ps := ps) (rs := rs) follows hT (by kernel_rfl) (by kernel_rfl) (by kernel_rfl) (by kernel_rfl) (by kernel_rfl) (by kernel_rfl) la) (fun x => (evFV_eq lt_eq x).trans (main_eq x))
end F43
/-! g03413/impl.AddRatios -/
namespace F25
abbrev ps : List PM := [.agg [.dat (.pair (.int .i64) (.int .i64))], .agg [.dat (.pair (.int .i64) (.int .i64))]]
abbrev rs : List PM := [.agg [.dat (.pair (.int .i64) (.int .i64))]]
abbrev X : Type := (((Int × Int) × Unit) × (((Int × Int) × Unit) × Unit))
abbrev R : Type := (((Int × Int) × Unit) × Unit) × Unit
abbrev Y : Type := Option R
noncomputable def T : Tbl := tbl [(27, [⟨F27.ps, F27.rs, F27.den⟩]), (43, [⟨F43.ps, F43.rs, F43.den⟩])]
noncomputable def c : Code := codeOf Try.f25
noncomputable def la : Nat → Option LAnn := fun k => lookL [] k
noncomputable def fin : Exit → St → Y := retK (finish Try.prog ps rs [.cell 4 26])
noncomputable def O : Ora R := ora []
theorem lt_eq : ltOf Try.prog T 31 [] la c fin = ltv (O) c := by kernel_rfl
noncomputable def d0 (x : X) : Y := (Option.bind (F27.den ((x.1.1, ()), ())) fun y1 => (if (!y1.1.1) = false then (Option.bind (F27.den ((x.2.1.1, ()), ())) fun y2 => (if (!y2.1.1) = true then (some ((((0, 0), ()), ()), ())) else (Option.bind (F43.den ((IntKind.wrap .i64 ((IntKind.wrap .i64 (x.1.1.1 * x.2.1.1.2)) + (IntKind.wrap .i64 (x.2.1.1.1 * x.1.1.2)))), ((IntKind.wrap .i64 (x.1.1.2 * x.2.1.1.2)), ()))) fun y3 => (some (((y3.1.1.1, ()), ()), ()))))) else (some ((((0, 0), ()), ()), ()))))
noncomputable def den (x : X) : Y := d0 x
theorem main_eq (x : X) : evFV Try.prog T 31 la c [.cell 4 26] ps rs (ltv (O) c) x = d0 x := by kernel_rfl
theorem ok {J : World → Prop} {G : Nat} : Con Try.prog J G 25 ps rs den := by
  have hT : TblOk Try.prog J G T := (tbl_cons (by intro e he; simp only [List.mem_cons, List.not_mem_nil, or_false] at he; subst he; exact F27.ok) (tbl_cons (by intro e he; simp only [List.mem_cons, List.not_mem_nil, or_false] at he; subst he; exact F43.ok) tbl_nil))
  exact Con.of_eq (fn_ok (fn := Try.f25) (c := c) (nt := 31) (res := [.cell 4 26]) (ps := ps) (rs := rs) follows hT (by kernel_rfl) (by kernel_rfl) (by kernel_rfl) (by kernel_rfl) (by kernel_rfl) (by kernel_rfl) la) (fun x => (evFV_eq lt_eq x).trans (main_eq x))
end F25
/-! g03413/impl.MoveTrack -/
namespace F7
abbrev ps : List PM := [.c (.dat (.sl (.pair (.pair (.int .i64) (.int .i64)) (.pair (.pair (.int .i64) (.int .i64)) (.pair (.int .i64) (.int .i64)))))), .agg [.dat (.pair (.int .i64) (.int .i64))], .agg [.dat (.pair (.int .i64) (.int .i64))], .agg [.dat (.pair (.int .i64) (.int .i64))]]
abbrev rs : List PM := [.c (.own true (.pair (.pair (.int .i64) (.int .i64)) (.pair (.pair (.int .i64) (.int .i64)) (.pair (.int .i64) (.int .i64))))), .c (.dat .bool)]
abbrev X : Type := ((List ((Int × Int) × ((Int × Int) × (Int × Int)))) × (((Int × Int) × Unit) × (((Int × Int) × Unit) × (((Int × Int) × Unit) × Unit))))
abbrev R : Type := ((List ((Int × Int) × ((Int × Int) × (Int × Int)))) × (Bool × Unit)) × Unit
abbrev Y : Type := Option R
noncomputable def T : Tbl := tbl [(24, [⟨F24.ps, F24.rs, F24.den⟩]), (25, [⟨F25.ps, F25.rs, F25.den⟩])]
noncomputable def c : Code := codeOf Try.f7
abbrev X0 : Type := (((Int × Int) × Unit) × (((Int × Int) × Unit) × (((Int × Int) × Unit) × ((List ((Int × Int) × ((Int × Int) × (Int × Int)))) × ((List ((Int × Int) × ((Int × Int) × (Int × Int)))) × (Int × (Int × Unit)))))))
noncomputable def a0 : LAnn := ⟨[5, 6, 7, 10, 17, 18, 19], [.ptr [.dat (.pair (.int .i64) (.int .i64))], .ptr [.dat (.pair (.int .i64) (.int .i64))], .ptr [.dat (.pair (.int .i64) (.int .i64))], .c (.own true (.pair (.pair (.int .i64) (.int .i64)) (.pair (.pair (.int .i64) (.int .i64)) (.pair (.int .i64) (.int .i64))))), .c (.dat (.sl (.pair (.pair (.int .i64) (.int .i64)) (.pair (.pair (.int .i64) (.int .i64)) (.pair (.int .i64) (.int .i64)))))), .c (.dat (.int .i64)), .c (.dat (.int .i64))]⟩
noncomputable def la : Nat → Option LAnn := fun k => lookL [(5, a0)] k
noncomputable def fin : Exit → St → Y := retK (finish Try.prog ps rs [.tmp 8, .tmp 9])
noncomputable def O (l0 : X0 → Y) : Ora R := ora [(5, ⟨a0, l0⟩)]
noncomputable def c0 : Code := atP c [1, 1, 1, 0, 1, 0, 0]
noncomputable def k0 : Exit → St → Y := kAt Try.prog T 44 [] la c [1, 1, 1, 0, 1, 0] fin
noncomputable def kD0 (l0 : X0 → Y) : Exit → St → Y := kAtD Try.prog T 44 [] la c [1, 1, 1, 0, 1, 0] (ltv (O l0) c) fin
noncomputable def w0 : Nat → X0 → Y := lpAt Try.prog T 44 [] la a0 c0 k0
noncomputable def O0 : Ora R := ora []
theorem lt_eq : ltOf Try.prog T 44 [] la c fin = ltv (O (w0 big)) c := by kernel_rfl
theorem lt0_eq (r0 : X0 → Y) : ltOf Try.prog T 44 [] la c0 (contOf a0 k0 r0) = ltv (O0) c0 := by kernel_rfl
theorem kD0_eq : k0 = kD0 (w0 big) := contV_eq rfl lt_eq
noncomputable def b0 (r0 : X0 → Y) (x : X0) : Y := (if (decide ((x.2.2.2.2.2.2.1 : Int) < x.2.2.2.2.2.1)) = true then (if (decide (0 ≤ (x.2.2.2.2.2.2.1 : Int)) && decide (x.2.2.2.2.2.2.1 < ((List.length x.2.2.2.2.1 : Nat) : Int))) = true then (Option.bind (F25.den (((gt (.pair (.pair (.int .i64) (.int .i64)) (.pair (.pair (.int .i64) (.int .i64)) (.pair (.int .i64) (.int .i64)))) x.2.2.2.2.1 (Int.toNat x.2.2.2.2.2.2.1)).1, ()), ((x.1.1, ()), ()))) fun y2 => (Option.bind (F25.den (((gt (.pair (.pair (.int .i64) (.int .i64)) (.pair (.pair (.int .i64) (.int .i64)) (.pair (.int .i64) (.int .i64)))) x.2.2.2.2.1 (Int.toNat x.2.2.2.2.2.2.1)).2.1, ()), ((x.2.1.1, ()), ()))) fun y3 => (Option.bind (F25.den (((gt (.pair (.pair (.int .i64) (.int .i64)) (.pair (.pair (.int .i64) (.int .i64)) (.pair (.int .i64) (.int .i64)))) x.2.2.2.2.1 (Int.toNat x.2.2.2.2.2.2.1)).2.2, ()), ((x.2.2.1.1, ()), ()))) fun y4 => (if (decide (List.length x.2.2.2.1 + List.length [(y2.1.1.1, (y3.1.1.1, y4.1.1.1))] ≤ cap36)) = true then (r0 ((x.1.1, ()), ((x.2.1.1, ()), ((x.2.2.1.1, ()), ((x.2.2.2.1 ++ [(y2.1.1.1, (y3.1.1.1, y4.1.1.1))]), (x.2.2.2.2.1, (x.2.2.2.2.2.1, ((IntKind.wrap .i64 (x.2.2.2.2.2.2.1 + 1)), ())))))))) else none)))) else none) else (Option.bind (F24.den (x.2.2.2.1, ())) fun y5 => (if (!y5.1.1) = true then (some ((([] : List ((Int × Int) × ((Int × Int) × (Int × Int)))), (false, ())), ())) else (some ((x.2.2.2.1, (true, ())), ())))))
noncomputable def B0 (r0 : X0 → Y) (x : X0) : Y := b0 r0 x
noncomputable def L0 : Nat → X0 → Y := itr B0
theorem rnd0 (l0 : X0 → Y) (r0 : X0 → Y) (x : X0) : rndV Try.prog T 44 [] la a0 c0 (ltv (O0) c0) (kD0 l0) r0 x = b0 r0 x := by kernel_rfl
theorem rd0 (r0 : X0 → Y) (x : X0) : rndAt Try.prog T 44 [] la a0 c0 k0 r0 x = B0 r0 x :=
  have h : rndAt Try.prog T 44 [] la a0 c0 k0 r0 x = rndV Try.prog T 44 [] la a0 c0 (ltv (O0) c0) (kD0 (w0 big)) r0 x := rndV_eq (ann := a0) kD0_eq (lt0_eq r0) x
  h.trans (rnd0 (w0 big) r0 x)
theorem w0_eq : w0 = L0 := by exact lp_itr (P := Try.prog) (Δ := T) (nt := 44) (fp := []) (la := la) (R := R) (ann := a0) (body := c0) (K := k0) (B := B0) (fun r0 x => rd0 r0 x)
noncomputable def d0 (l0 : X0 → Y) (x : X) : Y := (Option.bind (F24.den (x.1, ())) fun y1 => (if (!y1.1.1) = true then (some ((([] : List ((Int × Int) × ((Int × Int) × (Int × Int)))), (false, ())), ())) else (l0 ((x.2.1.1, ()), ((x.2.2.1.1, ()), ((x.2.2.2.1.1, ()), (([] : List ((Int × Int) × ((Int × Int) × (Int × Int)))), (x.1, ((((List.length x.1) : Nat) : Int), (0, ()))))))))))
noncomputable def den (x : X) : Y := d0 (L0 big) x
theorem main_eq (l0 : X0 → Y) (x : X) : evFV Try.prog T 44 la c [.tmp 8, .tmp 9] ps rs (ltv (O l0) c) x = d0 l0 x := by kernel_rfl
theorem ok {J : World → Prop} {G : Nat} : Con Try.prog J G 7 ps rs den := by
  have hT : TblOk Try.prog J G T := (tbl_cons (by intro e he; simp only [List.mem_cons, List.not_mem_nil, or_false] at he; subst he; exact F24.ok) (tbl_cons (by intro e he; simp only [List.mem_cons, List.not_mem_nil, or_false] at he; subst he; exact F25.ok) tbl_nil))
  exact Con.of_eq (fn_ok (fn := Try.f7) (c := c) (nt := 44) (res := [.tmp 8, .tmp 9]) (ps := ps) (rs := rs) follows hT (by kernel_rfl) (by kernel_rfl) (by kernel_rfl) (by kernel_rfl) (by kernel_rfl) (by kernel_rfl) la) (fun x => (evFV_eq lt_eq x).trans ((main_eq (w0 big) x).trans (by rw [w0_eq]; rfl)))
end F7
/-! g03413/spec.AddRatios -/
namespace F11
abbrev ps : List PM := [.agg [.dat (.pair (.int .i64) (.int .i64))], .agg [.dat (.pair (.int .i64) (.int .i64))]]
abbrev rs : List PM := [.agg [.dat (.pair (.int .i64) (.int .i64))]]
abbrev X : Type := (((Int × Int) × Unit) × (((Int × Int) × Unit) × Unit))
abbrev R : Type := (((Int × Int) × Unit) × Unit) × Unit
abbrev Y : Type := Option R
noncomputable def T : Tbl := tbl [(31, [⟨F31.ps, F31.rs, F31.den⟩]), (32, [⟨F32.ps, F32.rs, F32.den⟩])]
noncomputable def c : Code := codeOf Try.f11
noncomputable def la : Nat → Option LAnn := fun k => lookL [] k
noncomputable def fin : Exit → St → Y := retK (finish Try.prog ps rs [.cell 4 26])
noncomputable def O : Ora R := ora []
theorem lt_eq : ltOf Try.prog T 31 [] la c fin = ltv (O) c := by kernel_rfl
noncomputable def d0 (x : X) : Y := (Option.bind (F31.den ((x.1.1, ()), ())) fun y1 => (if (!y1.1.1) = false then (Option.bind (F31.den ((x.2.1.1, ()), ())) fun y2 => (if (!y2.1.1) = true then (some ((((0, 0), ()), ()), ())) else (Option.bind (F32.den ((IntKind.wrap .i64 ((IntKind.wrap .i64 (x.1.1.1 * x.2.1.1.2)) + (IntKind.wrap .i64 (x.2.1.1.1 * x.1.1.2)))), ((IntKind.wrap .i64 (x.1.1.2 * x.2.1.1.2)), ()))) fun y3 => (some (((y3.1.1.1, ()), ()), ()))))) else (some ((((0, 0), ()), ()), ()))))
noncomputable def den (x : X) : Y := d0 x
theorem main_eq (x : X) : evFV Try.prog T 31 la c [.cell 4 26] ps rs (ltv (O) c) x = d0 x := by kernel_rfl
theorem ok {J : World → Prop} {G : Nat} : Con Try.prog J G 11 ps rs den := by
  have hT : TblOk Try.prog J G T := (tbl_cons (by intro e he; simp only [List.mem_cons, List.not_mem_nil, or_false] at he; subst he; exact F31.ok) (tbl_cons (by intro e he; simp only [List.mem_cons, List.not_mem_nil, or_false] at he; subst he; exact F32.ok) tbl_nil))
  exact Con.of_eq (fn_ok (fn := Try.f11) (c := c) (nt := 31) (res := [.cell 4 26]) (ps := ps) (rs := rs) follows hT (by kernel_rfl) (by kernel_rfl) (by kernel_rfl) (by kernel_rfl) (by kernel_rfl) (by kernel_rfl) la) (fun x => (evFV_eq lt_eq x).trans (main_eq x))
end F11
/-! g03413/spec.l1Less -/
namespace F36
abbrev ps : List PM := [.agg [.dat (.pair (.int .i64) (.int .i64))], .agg [.dat (.pair (.int .i64) (.int .i64))]]
abbrev rs : List PM := [.c (.dat .bool)]
abbrev X : Type := (((Int × Int) × Unit) × (((Int × Int) × Unit) × Unit))
abbrev R : Type := (Bool × Unit) × Unit
abbrev Y : Type := Option R
noncomputable def T : Tbl := tbl []
noncomputable def c : Code := codeOf Try.f36
noncomputable def la : Nat → Option LAnn := fun k => lookL [] k
noncomputable def fin : Exit → St → Y := retK (finish Try.prog ps rs [.tmp 4])
noncomputable def O : Ora R := ora []
theorem lt_eq : ltOf Try.prog T 16 [] la c fin = ltv (O) c := by kernel_rfl
noncomputable def d0 (x : X) : Y := (some (((decide (((IntKind.wrap .i64 (x.1.1.1 * x.2.1.1.2)) : Int) < (IntKind.wrap .i64 (x.2.1.1.1 * x.1.1.2)))), ()), ()))
noncomputable def den (x : X) : Y := d0 x
theorem main_eq (x : X) : evFV Try.prog T 16 la c [.tmp 4] ps rs (ltv (O) c) x = d0 x := by kernel_rfl
theorem ok {J : World → Prop} {G : Nat} : Con Try.prog J G 36 ps rs den := by
  have hT : TblOk Try.prog J G T := tbl_nil
  exact Con.of_eq (fn_ok (fn := Try.f36) (c := c) (nt := 16) (res := [.tmp 4]) (ps := ps) (rs := rs) follows hT (by kernel_rfl) (by kernel_rfl) (by kernel_rfl) (by kernel_rfl) (by kernel_rfl) (by kernel_rfl) la) (fun x => (evFV_eq lt_eq x).trans (main_eq x))
end F36
/-! g03413/spec.IsTrack -/
namespace F26
abbrev ps : List PM := [.c (.dat (.sl (.pair (.pair (.int .i64) (.int .i64)) (.pair (.pair (.int .i64) (.int .i64)) (.pair (.int .i64) (.int .i64))))))]
abbrev rs : List PM := [.c (.dat .bool)]
abbrev X : Type := ((List ((Int × Int) × ((Int × Int) × (Int × Int)))) × Unit)
abbrev R : Type := (Bool × Unit) × Unit
abbrev Y : Type := Option R
noncomputable def T : Tbl := tbl [(31, [⟨F31.ps, F31.rs, F31.den⟩]), (36, [⟨F36.ps, F36.rs, F36.den⟩]), (44, [⟨F44.ps, F44.rs, F44.den⟩])]
noncomputable def c : Code := codeOf Try.f26
abbrev X0 : Type := ((List ((Int × Int) × ((Int × Int) × (Int × Int)))) × (Int × Unit))
noncomputable def a0 : LAnn := ⟨[0, 3], [.c (.dat (.sl (.pair (.pair (.int .i64) (.int .i64)) (.pair (.pair (.int .i64) (.int .i64)) (.pair (.int .i64) (.int .i64)))))), .c (.dat (.int .i64))]⟩
noncomputable def la : Nat → Option LAnn := fun k => lookL [(2, a0)] k
noncomputable def fin : Exit → St → Y := retK (finish Try.prog ps rs [.tmp 2])
noncomputable def O (l0 : X0 → Y) : Ora R := ora [(2, ⟨a0, l0⟩)]
noncomputable def c0 : Code := atP c [1, 0, 1, 0, 0]
noncomputable def k0 : Exit → St → Y := kAt Try.prog T 57 [] la c [1, 0, 1, 0] fin
noncomputable def kD0 (l0 : X0 → Y) : Exit → St → Y := kAtD Try.prog T 57 [] la c [1, 0, 1, 0] (ltv (O l0) c) fin
noncomputable def w0 : Nat → X0 → Y := lpAt Try.prog T 57 [] la a0 c0 k0
noncomputable def O0 : Ora R := ora []
theorem lt_eq : ltOf Try.prog T 57 [] la c fin = ltv (O (w0 big)) c := by kernel_rfl
theorem lt0_eq (r0 : X0 → Y) : ltOf Try.prog T 57 [] la c0 (contOf a0 k0 r0) = ltv (O0) c0 := by kernel_rfl
theorem kD0_eq : k0 = kD0 (w0 big) := contV_eq rfl lt_eq
noncomputable def b0 (r0 : X0 → Y) (x : X0) : Y := (if (decide ((x.2.1 : Int) < (((List.length x.1) : Nat) : Int))) = true then (if (decide (0 ≤ (x.2.1 : Int)) && decide (x.2.1 < ((List.length x.1 : Nat) : Int))) = true then (Option.bind (F31.den (((gt (.pair (.pair (.int .i64) (.int .i64)) (.pair (.pair (.int .i64) (.int .i64)) (.pair (.int .i64) (.int .i64)))) x.1 (Int.toNat x.2.1)).1, ()), ())) fun y1 => (if (!y1.1.1) = false then (if (decide (0 ≤ (x.2.1 : Int)) && decide (x.2.1 < ((List.length x.1 : Nat) : Int))) = true then (Option.bind (F31.den (((gt (.pair (.pair (.int .i64) (.int .i64)) (.pair (.pair (.int .i64) (.int .i64)) (.pair (.int .i64) (.int .i64)))) x.1 (Int.toNat x.2.1)).2.1, ()), ())) fun y2 => (if (!y2.1.1) = false then (if (decide (0 ≤ (x.2.1 : Int)) && decide (x.2.1 < ((List.length x.1 : Nat) : Int))) = true then (Option.bind (F31.den (((gt (.pair (.pair (.int .i64) (.int .i64)) (.pair (.pair (.int .i64) (.int .i64)) (.pair (.int .i64) (.int .i64)))) x.1 (Int.toNat x.2.1)).2.2, ()), ())) fun y3 => (if (!y3.1.1) = false then (if (decide ((x.2.1 : Int) > 0)) = true then (if (decide (0 ≤ ((IntKind.wrap .i64 (x.2.1 - 1)) : Int)) && decide ((IntKind.wrap .i64 (x.2.1 - 1)) < ((List.length x.1 : Nat) : Int))) = true then (if (decide (0 ≤ (x.2.1 : Int)) && decide (x.2.1 < ((List.length x.1 : Nat) : Int))) = true then (Option.bind (F36.den (((gt (.pair (.pair (.int .i64) (.int .i64)) (.pair (.pair (.int .i64) (.int .i64)) (.pair (.int .i64) (.int .i64)))) x.1 (Int.toNat (IntKind.wrap .i64 (x.2.1 - 1)))).1, ()), (((gt (.pair (.pair (.int .i64) (.int .i64)) (.pair (.pair (.int .i64) (.int .i64)) (.pair (.int .i64) (.int .i64)))) x.1 (Int.toNat x.2.1)).1, ()), ()))) fun y4 => (if (!y4.1.1) = true then (some ((false, ()), ())) else (r0 (x.1, ((IntKind.wrap .i64 (x.2.1 + 1)), ()))))) else none) else none) else (r0 (x.1, ((IntKind.wrap .i64 (x.2.1 + 1)), ())))) else (some ((false, ()), ())))) else none) else (some ((false, ()), ())))) else none) else (some ((false, ()), ())))) else none) else (Option.bind (F44.den ((((List.length x.1) : Nat) : Int), (1, (6, ())))) fun y5 => (some ((y5.1.1, ()), ()))))
noncomputable def B0 (r0 : X0 → Y) (x : X0) : Y := b0 r0 x
noncomputable def L0 : Nat → X0 → Y := itr B0
theorem rnd0 (l0 : X0 → Y) (r0 : X0 → Y) (x : X0) : rndV Try.prog T 57 [] la a0 c0 (ltv (O0) c0) (kD0 l0) r0 x = b0 r0 x := by kernel_rfl
theorem rd0 (r0 : X0 → Y) (x : X0) : rndAt Try.prog T 57 [] la a0 c0 k0 r0 x = B0 r0 x :=
  have h : rndAt Try.prog T 57 [] la a0 c0 k0 r0 x = rndV Try.prog T 57 [] la a0 c0 (ltv (O0) c0) (kD0 (w0 big)) r0 x := rndV_eq (ann := a0) kD0_eq (lt0_eq r0) x
  h.trans (rnd0 (w0 big) r0 x)
theorem w0_eq : w0 = L0 := by exact lp_itr (P := Try.prog) (Δ := T) (nt := 57) (fp := []) (la := la) (R := R) (ann := a0) (body := c0) (K := k0) (B := B0) (fun r0 x => rd0 r0 x)
noncomputable def d0 (l0 : X0 → Y) (x : X) : Y := (l0 (x.1, (0, ())))
noncomputable def den (x : X) : Y := d0 (L0 big) x
theorem main_eq (l0 : X0 → Y) (x : X) : evFV Try.prog T 57 la c [.tmp 2] ps rs (ltv (O l0) c) x = d0 l0 x := by kernel_rfl
theorem ok {J : World → Prop} {G : Nat} : Con Try.prog J G 26 ps rs den := by
  have hT : TblOk Try.prog J G T := (tbl_cons (by intro e he; simp only [List.mem_cons, List.not_mem_nil, or_false] at he; subst he; exact F31.ok) (tbl_cons (by intro e he; simp only [List.mem_cons, List.not_mem_nil, or_false] at he; subst he; exact F36.ok) (tbl_cons (by intro e he; simp only [List.mem_cons, List.not_mem_nil, or_false] at he; subst he; exact F44.ok) tbl_nil)))
  exact Con.of_eq (fn_ok (fn := Try.f26) (c := c) (nt := 57) (res := [.tmp 2]) (ps := ps) (rs := rs) follows hT (by kernel_rfl) (by kernel_rfl) (by kernel_rfl) (by kernel_rfl) (by kernel_rfl) (by kernel_rfl) la) (fun x => (evFV_eq lt_eq x).trans ((main_eq (w0 big) x).trans (by rw [w0_eq]; rfl)))
end F26
/-! g03413/spec.MoveTrack -/
namespace F8
abbrev ps : List PM := [.c (.dat (.sl (.pair (.pair (.int .i64) (.int .i64)) (.pair (.pair (.int .i64) (.int .i64)) (.pair (.int .i64) (.int .i64)))))), .agg [.dat (.pair (.int .i64) (.int .i64))], .agg [.dat (.pair (.int .i64) (.int .i64))], .agg [.dat (.pair (.int .i64) (.int .i64))]]
abbrev rs : List PM := [.c (.own true (.pair (.pair (.int .i64) (.int .i64)) (.pair (.pair (.int .i64) (.int .i64)) (.pair (.int .i64) (.int .i64))))), .c (.dat .bool)]
abbrev X : Type := ((List ((Int × Int) × ((Int × Int) × (Int × Int)))) × (((Int × Int) × Unit) × (((Int × Int) × Unit) × (((Int × Int) × Unit) × Unit))))
abbrev R : Type := ((List ((Int × Int) × ((Int × Int) × (Int × Int)))) × (Bool × Unit)) × Unit
abbrev Y : Type := Option R
noncomputable def T : Tbl := tbl [(11, [⟨F11.ps, F11.rs, F11.den⟩]), (26, [⟨F26.ps, F26.rs, F26.den⟩])]
noncomputable def c : Code := codeOf Try.f8
abbrev X0 : Type := ((List ((Int × Int) × ((Int × Int) × (Int × Int)))) × (((Int × Int) × Unit) × (((Int × Int) × Unit) × (((Int × Int) × Unit) × ((List ((Int × Int) × ((Int × Int) × (Int × Int)))) × (Int × Unit))))))
noncomputable def a0 : LAnn := ⟨[0, 5, 6, 7, 10, 11], [.c (.dat (.sl (.pair (.pair (.int .i64) (.int .i64)) (.pair (.pair (.int .i64) (.int .i64)) (.pair (.int .i64) (.int .i64)))))), .ptr [.dat (.pair (.int .i64) (.int .i64))], .ptr [.dat (.pair (.int .i64) (.int .i64))], .ptr [.dat (.pair (.int .i64) (.int .i64))], .c (.own true (.pair (.pair (.int .i64) (.int .i64)) (.pair (.pair (.int .i64) (.int .i64)) (.pair (.int .i64) (.int .i64))))), .c (.dat (.int .i64))]⟩
noncomputable def la : Nat → Option LAnn := fun k => lookL [(3, a0)] k
noncomputable def fin : Exit → St → Y := retK (finish Try.prog ps rs [.tmp 8, .tmp 9])
noncomputable def O (l0 : X0 → Y) : Ora R := ora [(3, ⟨a0, l0⟩)]
noncomputable def c0 : Code := atP c [1, 1, 0, 1, 0, 0]
noncomputable def k0 : Exit → St → Y := kAt Try.prog T 53 [] la c [1, 1, 0, 1, 0] fin
noncomputable def kD0 (l0 : X0 → Y) : Exit → St → Y := kAtD Try.prog T 53 [] la c [1, 1, 0, 1, 0] (ltv (O l0) c) fin
noncomputable def w0 : Nat → X0 → Y := lpAt Try.prog T 53 [] la a0 c0 k0
noncomputable def O0 : Ora R := ora []
theorem lt_eq : ltOf Try.prog T 53 [] la c fin = ltv (O (w0 big)) c := by kernel_rfl
theorem lt0_eq (r0 : X0 → Y) : ltOf Try.prog T 53 [] la c0 (contOf a0 k0 r0) = ltv (O0) c0 := by kernel_rfl
theorem kD0_eq : k0 = kD0 (w0 big) := contV_eq rfl lt_eq
noncomputable def b0 (r0 : X0 → Y) (x : X0) : Y := (if (decide ((x.2.2.2.2.2.1 : Int) < (((List.length x.1) : Nat) : Int))) = true then (Option.bind (F26.den (x.1, ())) fun y1 => (if y1.1.1 = true then (if (decide (0 ≤ (x.2.2.2.2.2.1 : Int)) && decide (x.2.2.2.2.2.1 < ((List.length x.1 : Nat) : Int))) = true then (Option.bind (F11.den (((gt (.pair (.pair (.int .i64) (.int .i64)) (.pair (.pair (.int .i64) (.int .i64)) (.pair (.int .i64) (.int .i64)))) x.1 (Int.toNat x.2.2.2.2.2.1)).1, ()), ((x.2.1.1, ()), ()))) fun y2 => (if (decide (0 ≤ (x.2.2.2.2.2.1 : Int)) && decide (x.2.2.2.2.2.1 < ((List.length x.1 : Nat) : Int))) = true then (Option.bind (F11.den (((gt (.pair (.pair (.int .i64) (.int .i64)) (.pair (.pair (.int .i64) (.int .i64)) (.pair (.int .i64) (.int .i64)))) x.1 (Int.toNat x.2.2.2.2.2.1)).2.1, ()), ((x.2.2.1.1, ()), ()))) fun y3 => (if (decide (0 ≤ (x.2.2.2.2.2.1 : Int)) && decide (x.2.2.2.2.2.1 < ((List.length x.1 : Nat) : Int))) = true then (Option.bind (F11.den (((gt (.pair (.pair (.int .i64) (.int .i64)) (.pair (.pair (.int .i64) (.int .i64)) (.pair (.int .i64) (.int .i64)))) x.1 (Int.toNat x.2.2.2.2.2.1)).2.2, ()), ((x.2.2.2.1.1, ()), ()))) fun y4 => (if (decide (List.length x.2.2.2.2.1 + List.length [(y2.1.1.1, (y3.1.1.1, y4.1.1.1))] ≤ cap36)) = true then (r0 (x.1, ((x.2.1.1, ()), ((x.2.2.1.1, ()), ((x.2.2.2.1.1, ()), ((x.2.2.2.2.1 ++ [(y2.1.1.1, (y3.1.1.1, y4.1.1.1))]), ((IntKind.wrap .i64 (x.2.2.2.2.2.1 + 1)), ()))))))) else none)) else none)) else none)) else none) else (Option.bind (F26.den (x.2.2.2.2.1, ())) fun y5 => (if (!y5.1.1) = true then (some ((([] : List ((Int × Int) × ((Int × Int) × (Int × Int)))), (false, ())), ())) else (some ((x.2.2.2.2.1, (true, ())), ())))))) else (Option.bind (F26.den (x.2.2.2.2.1, ())) fun y6 => (if (!y6.1.1) = true then (some ((([] : List ((Int × Int) × ((Int × Int) × (Int × Int)))), (false, ())), ())) else (some ((x.2.2.2.2.1, (true, ())), ())))))
noncomputable def B0 (r0 : X0 → Y) (x : X0) : Y := b0 r0 x
noncomputable def L0 : Nat → X0 → Y := itr B0
theorem rnd0 (l0 : X0 → Y) (r0 : X0 → Y) (x : X0) : rndV Try.prog T 53 [] la a0 c0 (ltv (O0) c0) (kD0 l0) r0 x = b0 r0 x := by kernel_rfl
theorem rd0 (r0 : X0 → Y) (x : X0) : rndAt Try.prog T 53 [] la a0 c0 k0 r0 x = B0 r0 x :=
  have h : rndAt Try.prog T 53 [] la a0 c0 k0 r0 x = rndV Try.prog T 53 [] la a0 c0 (ltv (O0) c0) (kD0 (w0 big)) r0 x := rndV_eq (ann := a0) kD0_eq (lt0_eq r0) x
  h.trans (rnd0 (w0 big) r0 x)
theorem w0_eq : w0 = L0 := by exact lp_itr (P := Try.prog) (Δ := T) (nt := 53) (fp := []) (la := la) (R := R) (ann := a0) (body := c0) (K := k0) (B := B0) (fun r0 x => rd0 r0 x)
noncomputable def d0 (l0 : X0 → Y) (x : X) : Y := (l0 (x.1, ((x.2.1.1, ()), ((x.2.2.1.1, ()), ((x.2.2.2.1.1, ()), (([] : List ((Int × Int) × ((Int × Int) × (Int × Int)))), (0, ())))))))
noncomputable def den (x : X) : Y := d0 (L0 big) x
theorem main_eq (l0 : X0 → Y) (x : X) : evFV Try.prog T 53 la c [.tmp 8, .tmp 9] ps rs (ltv (O l0) c) x = d0 l0 x := by kernel_rfl
theorem ok {J : World → Prop} {G : Nat} : Con Try.prog J G 8 ps rs den := by
  have hT : TblOk Try.prog J G T := (tbl_cons (by intro e he; simp only [List.mem_cons, List.not_mem_nil, or_false] at he; subst he; exact F11.ok) (tbl_cons (by intro e he; simp only [List.mem_cons, List.not_mem_nil, or_false] at he; subst he; exact F26.ok) tbl_nil))
  exact Con.of_eq (fn_ok (fn := Try.f8) (c := c) (nt := 53) (res := [.tmp 8, .tmp 9]) (ps := ps) (rs := rs) follows hT (by kernel_rfl) (by kernel_rfl) (by kernel_rfl) (by kernel_rfl) (by kernel_rfl) (by kernel_rfl) la) (fun x => (evFV_eq lt_eq x).trans ((main_eq (w0 big) x).trans (by rw [w0_eq]; rfl)))
end F8
/-! g03413/laws.point -/
namespace F9
abbrev ps : List PM := [.c (.dat (.sl (.int .u8))), .c (.dat (.int .i64))]
abbrev rs : List PM := [.c (.own true (.pair (.int .i64) (.int .i64)))]
abbrev X : Type := ((List Int) × (Int × Unit))
abbrev R : Type := ((List (Int × Int)) × Unit) × Unit
abbrev Y : Type := Option R
noncomputable def T : Tbl := tbl [(22, [⟨F22.ps, F22.rs, F22.den⟩])]
noncomputable def c : Code := codeOf Try.f9
abbrev X0 : Type := ((List Int) × (Int × ((List (Int × Int)) × (Int × Unit))))
noncomputable def a0 : LAnn := ⟨[0, 1, 5, 6], [.c (.dat (.sl (.int .u8))), .c (.dat (.int .i64)), .c (.own true (.pair (.int .i64) (.int .i64))), .c (.dat (.int .i64))]⟩
noncomputable def la : Nat → Option LAnn := fun k => lookL [(3, a0)] k
noncomputable def fin : Exit → St → Y := retK (finish Try.prog ps rs [.tmp 4])
noncomputable def O (l0 : X0 → Y) : Ora R := ora [(3, ⟨a0, l0⟩)]
noncomputable def c0 : Code := atP c [1, 1, 0, 1, 0, 0]
noncomputable def k0 : Exit → St → Y := kAt Try.prog T 36 [] la c [1, 1, 0, 1, 0] fin
noncomputable def kD0 (l0 : X0 → Y) : Exit → St → Y := kAtD Try.prog T 36 [] la c [1, 1, 0, 1, 0] (ltv (O l0) c) fin
noncomputable def w0 : Nat → X0 → Y := lpAt Try.prog T 36 [] la a0 c0 k0
noncomputable def O0 : Ora R := ora []
theorem lt_eq : ltOf Try.prog T 36 [] la c fin = ltv (O (w0 big)) c := by kernel_rfl
theorem lt0_eq (r0 : X0 → Y) : ltOf Try.prog T 36 [] la c0 (contOf a0 k0 r0) = ltv (O0) c0 := by kernel_rfl
theorem kD0_eq : k0 = kD0 (w0 big) := contV_eq rfl lt_eq
noncomputable def b0 (r0 : X0 → Y) (x : X0) : Y := (if (decide ((x.2.2.2.1 : Int) < x.2.1)) = true then (if (decide ((x.2.2.2.1 : Int) < (((List.length x.1) : Nat) : Int))) = true then (if (decide (0 ≤ (x.2.2.2.1 : Int)) && decide (x.2.2.2.1 < ((List.length x.1 : Nat) : Int))) = true then (if ((17 : Int) != 0) = true then (if ((17 : Int) != 0) = true then (if ((3 : Int) != 0) = true then (Option.bind (F22.den ((IntKind.wrap .i64 ((Int.tmod (IntKind.wrap .i64 (gt (.int .u8) x.1 (Int.toNat x.2.2.2.1))) 17) - 8)), ((IntKind.wrap .i64 (1 + (Int.tmod (IntKind.wrap .i64 (Int.tdiv (IntKind.wrap .i64 (gt (.int .u8) x.1 (Int.toNat x.2.2.2.1))) 17)) 3))), ()))) fun y1 => (if (decide (List.length x.2.2.1 + List.length [y1.1.1.1] ≤ cap36)) = true then (r0 (x.1, (x.2.1, ((x.2.2.1 ++ [y1.1.1.1]), ((IntKind.wrap .i64 (x.2.2.2.1 + 1)), ()))))) else none)) else none) else none) else none) else none) else (if ((17 : Int) != 0) = true then (if ((17 : Int) != 0) = true then (if ((3 : Int) != 0) = true then (Option.bind (F22.den ((IntKind.wrap .i64 ((Int.tmod x.2.2.2.1 17) - 8)), ((IntKind.wrap .i64 (1 + (Int.tmod (IntKind.wrap .i64 (Int.tdiv x.2.2.2.1 17)) 3))), ()))) fun y2 => (if (decide (List.length x.2.2.1 + List.length [y2.1.1.1] ≤ cap36)) = true then (r0 (x.1, (x.2.1, ((x.2.2.1 ++ [y2.1.1.1]), ((IntKind.wrap .i64 (x.2.2.2.1 + 1)), ()))))) else none)) else none) else none) else none)) else (some ((x.2.2.1, ()), ())))
noncomputable def B0 (r0 : X0 → Y) (x : X0) : Y := b0 r0 x
noncomputable def L0 : Nat → X0 → Y := itr B0
theorem rnd0 (l0 : X0 → Y) (r0 : X0 → Y) (x : X0) : rndV Try.prog T 36 [] la a0 c0 (ltv (O0) c0) (kD0 l0) r0 x = b0 r0 x := by kernel_rfl
theorem rd0 (r0 : X0 → Y) (x : X0) : rndAt Try.prog T 36 [] la a0 c0 k0 r0 x = B0 r0 x :=
  have h : rndAt Try.prog T 36 [] la a0 c0 k0 r0 x = rndV Try.prog T 36 [] la a0 c0 (ltv (O0) c0) (kD0 (w0 big)) r0 x := rndV_eq (ann := a0) kD0_eq (lt0_eq r0) x
  h.trans (rnd0 (w0 big) r0 x)
theorem w0_eq : w0 = L0 := by exact lp_itr (P := Try.prog) (Δ := T) (nt := 36) (fp := []) (la := la) (R := R) (ann := a0) (body := c0) (K := k0) (B := B0) (fun r0 x => rd0 r0 x)
noncomputable def d0 (l0 : X0 → Y) (x : X) : Y := (l0 (x.1, (x.2.1, (([] : List (Int × Int)), (0, ())))))
noncomputable def den (x : X) : Y := d0 (L0 big) x
theorem main_eq (l0 : X0 → Y) (x : X) : evFV Try.prog T 36 la c [.tmp 4] ps rs (ltv (O l0) c) x = d0 l0 x := by kernel_rfl
theorem ok {J : World → Prop} {G : Nat} : Con Try.prog J G 9 ps rs den := by
  have hT : TblOk Try.prog J G T := (tbl_cons (by intro e he; simp only [List.mem_cons, List.not_mem_nil, or_false] at he; subst he; exact F22.ok) tbl_nil)
  exact Con.of_eq (fn_ok (fn := Try.f9) (c := c) (nt := 36) (res := [.tmp 4]) (ps := ps) (rs := rs) follows hT (by kernel_rfl) (by kernel_rfl) (by kernel_rfl) (by kernel_rfl) (by kernel_rfl) (by kernel_rfl) la) (fun x => (evFV_eq lt_eq x).trans ((main_eq (w0 big) x).trans (by rw [w0_eq]; rfl)))
end F9
/-! g03413/impl.MultiplyRatios -/
namespace F29
abbrev ps : List PM := [.agg [.dat (.pair (.int .i64) (.int .i64))], .agg [.dat (.pair (.int .i64) (.int .i64))]]
abbrev rs : List PM := [.agg [.dat (.pair (.int .i64) (.int .i64))]]
abbrev X : Type := (((Int × Int) × Unit) × (((Int × Int) × Unit) × Unit))
abbrev R : Type := (((Int × Int) × Unit) × Unit) × Unit
abbrev Y : Type := Option R
noncomputable def T : Tbl := tbl [(27, [⟨F27.ps, F27.rs, F27.den⟩]), (43, [⟨F43.ps, F43.rs, F43.den⟩])]
noncomputable def c : Code := codeOf Try.f29
noncomputable def la : Nat → Option LAnn := fun k => lookL [] k
noncomputable def fin : Exit → St → Y := retK (finish Try.prog ps rs [.cell 4 26])
noncomputable def O : Ora R := ora []
theorem lt_eq : ltOf Try.prog T 25 [] la c fin = ltv (O) c := by kernel_rfl
noncomputable def d0 (x : X) : Y := (Option.bind (F27.den ((x.1.1, ()), ())) fun y1 => (if (!y1.1.1) = false then (Option.bind (F27.den ((x.2.1.1, ()), ())) fun y2 => (if (!y2.1.1) = true then (some ((((0, 0), ()), ()), ())) else (Option.bind (F43.den ((IntKind.wrap .i64 (x.1.1.1 * x.2.1.1.1)), ((IntKind.wrap .i64 (x.1.1.2 * x.2.1.1.2)), ()))) fun y3 => (some (((y3.1.1.1, ()), ()), ()))))) else (some ((((0, 0), ()), ()), ()))))
noncomputable def den (x : X) : Y := d0 x
theorem main_eq (x : X) : evFV Try.prog T 25 la c [.cell 4 26] ps rs (ltv (O) c) x = d0 x := by kernel_rfl
theorem ok {J : World → Prop} {G : Nat} : Con Try.prog J G 29 ps rs den := by
  have hT : TblOk Try.prog J G T := (tbl_cons (by intro e he; simp only [List.mem_cons, List.not_mem_nil, or_false] at he; subst he; exact F27.ok) (tbl_cons (by intro e he; simp only [List.mem_cons, List.not_mem_nil, or_false] at he; subst he; exact F43.ok) tbl_nil))
  exact Con.of_eq (fn_ok (fn := Try.f29) (c := c) (nt := 25) (res := [.cell 4 26]) (ps := ps) (rs := rs) follows hT (by kernel_rfl) (by kernel_rfl) (by kernel_rfl) (by kernel_rfl) (by kernel_rfl) (by kernel_rfl) la) (fun x => (evFV_eq lt_eq x).trans (main_eq x))
end F29
/-! g03413/impl.DivideRatios -/
namespace F55
abbrev ps : List PM := [.agg [.dat (.pair (.int .i64) (.int .i64))], .agg [.dat (.pair (.int .i64) (.int .i64))]]
abbrev rs : List PM := [.agg [.dat (.pair (.int .i64) (.int .i64))]]
abbrev X : Type := (((Int × Int) × Unit) × (((Int × Int) × Unit) × Unit))
abbrev R : Type := (((Int × Int) × Unit) × Unit) × Unit
abbrev Y : Type := Option R
noncomputable def T : Tbl := tbl [(27, [⟨F27.ps, F27.rs, F27.den⟩]), (43, [⟨F43.ps, F43.rs, F43.den⟩])]
noncomputable def c : Code := codeOf Try.f55
noncomputable def la : Nat → Option LAnn := fun k => lookL [] k
noncomputable def fin : Exit → St → Y := retK (finish Try.prog ps rs [.cell 4 26])
noncomputable def O : Ora R := ora []
theorem lt_eq : ltOf Try.prog T 30 [] la c fin = ltv (O) c := by kernel_rfl
noncomputable def d0 (x : X) : Y := (Option.bind (F27.den ((x.1.1, ()), ())) fun y1 => (if (!y1.1.1) = false then (Option.bind (F27.den ((x.2.1.1, ()), ())) fun y2 => (if (!y2.1.1) = false then (if ((x.2.1.1.1 : Int) == 0) = true then (some ((((0, 0), ()), ()), ())) else (Option.bind (F43.den ((IntKind.wrap .i64 (x.1.1.1 * x.2.1.1.2)), ((IntKind.wrap .i64 (x.1.1.2 * x.2.1.1.1)), ()))) fun y3 => (some (((y3.1.1.1, ()), ()), ())))) else (some ((((0, 0), ()), ()), ())))) else (some ((((0, 0), ()), ()), ()))))
noncomputable def den (x : X) : Y := d0 x
theorem main_eq (x : X) : evFV Try.prog T 30 la c [.cell 4 26] ps rs (ltv (O) c) x = d0 x := by kernel_rfl
theorem ok {J : World → Prop} {G : Nat} : Con Try.prog J G 55 ps rs den := by
  have hT : TblOk Try.prog J G T := (tbl_cons (by intro e he; simp only [List.mem_cons, List.not_mem_nil, or_false] at he; subst he; exact F27.ok) (tbl_cons (by intro e he; simp only [List.mem_cons, List.not_mem_nil, or_false] at he; subst he; exact F43.ok) tbl_nil))
  exact Con.of_eq (fn_ok (fn := Try.f55) (c := c) (nt := 30) (res := [.cell 4 26]) (ps := ps) (rs := rs) follows hT (by kernel_rfl) (by kernel_rfl) (by kernel_rfl) (by kernel_rfl) (by kernel_rfl) (by kernel_rfl) la) (fun x => (evFV_eq lt_eq x).trans (main_eq x))
end F55
/-! g03413/impl.NegateRatio -/
namespace F59
abbrev ps : List PM := [.agg [.dat (.pair (.int .i64) (.int .i64))]]
abbrev rs : List PM := [.agg [.dat (.pair (.int .i64) (.int .i64))]]
abbrev X : Type := (((Int × Int) × Unit) × Unit)
abbrev R : Type := (((Int × Int) × Unit) × Unit) × Unit
abbrev Y : Type := Option R
noncomputable def T : Tbl := tbl [(27, [⟨F27.ps, F27.rs, F27.den⟩])]
noncomputable def c : Code := codeOf Try.f59
noncomputable def la : Nat → Option LAnn := fun k => lookL [] k
noncomputable def fin : Exit → St → Y := retK (finish Try.prog ps rs [.cell 2 26])
noncomputable def O : Ora R := ora []
theorem lt_eq : ltOf Try.prog T 13 [] la c fin = ltv (O) c := by kernel_rfl
noncomputable def d0 (x : X) : Y := (Option.bind (F27.den ((x.1.1, ()), ())) fun y1 => (if (!y1.1.1) = true then (some ((((0, 0), ()), ()), ())) else (some (((((IntKind.wrap .i64 (0 - x.1.1.1)), x.1.1.2), ()), ()), ()))))
noncomputable def den (x : X) : Y := d0 x
theorem main_eq (x : X) : evFV Try.prog T 13 la c [.cell 2 26] ps rs (ltv (O) c) x = d0 x := by kernel_rfl
theorem ok {J : World → Prop} {G : Nat} : Con Try.prog J G 59 ps rs den := by
  have hT : TblOk Try.prog J G T := (tbl_cons (by intro e he; simp only [List.mem_cons, List.not_mem_nil, or_false] at he; subst he; exact F27.ok) tbl_nil)
  exact Con.of_eq (fn_ok (fn := Try.f59) (c := c) (nt := 13) (res := [.cell 2 26]) (ps := ps) (rs := rs) follows hT (by kernel_rfl) (by kernel_rfl) (by kernel_rfl) (by kernel_rfl) (by kernel_rfl) (by kernel_rfl) la) (fun x => (evFV_eq lt_eq x).trans (main_eq x))
end F59
/-! g03413/impl.subtractRatios -/
namespace F56
abbrev ps : List PM := [.agg [.dat (.pair (.int .i64) (.int .i64))], .agg [.dat (.pair (.int .i64) (.int .i64))]]
abbrev rs : List PM := [.agg [.dat (.pair (.int .i64) (.int .i64))]]
abbrev X : Type := (((Int × Int) × Unit) × (((Int × Int) × Unit) × Unit))
abbrev R : Type := (((Int × Int) × Unit) × Unit) × Unit
abbrev Y : Type := Option R
noncomputable def T : Tbl := tbl [(25, [⟨F25.ps, F25.rs, F25.den⟩]), (59, [⟨F59.ps, F59.rs, F59.den⟩])]
noncomputable def c : Code := codeOf Try.f56
noncomputable def la : Nat → Option LAnn := fun k => lookL [] k
noncomputable def fin : Exit → St → Y := retK (finish Try.prog ps rs [.cell 4 26])
noncomputable def O : Ora R := ora []
theorem lt_eq : ltOf Try.prog T 9 [] la c fin = ltv (O) c := by kernel_rfl
noncomputable def d0 (x : X) : Y := (Option.bind (F59.den ((x.2.1.1, ()), ())) fun y1 => (Option.bind (F25.den ((x.1.1, ()), ((y1.1.1.1, ()), ()))) fun y2 => (some (((y2.1.1.1, ()), ()), ()))))
noncomputable def den (x : X) : Y := d0 x
theorem main_eq (x : X) : evFV Try.prog T 9 la c [.cell 4 26] ps rs (ltv (O) c) x = d0 x := by kernel_rfl
theorem ok {J : World → Prop} {G : Nat} : Con Try.prog J G 56 ps rs den := by
  have hT : TblOk Try.prog J G T := (tbl_cons (by intro e he; simp only [List.mem_cons, List.not_mem_nil, or_false] at he; subst he; exact F25.ok) (tbl_cons (by intro e he; simp only [List.mem_cons, List.not_mem_nil, or_false] at he; subst he; exact F59.ok) tbl_nil))
  exact Con.of_eq (fn_ok (fn := Try.f56) (c := c) (nt := 9) (res := [.cell 4 26]) (ps := ps) (rs := rs) follows hT (by kernel_rfl) (by kernel_rfl) (by kernel_rfl) (by kernel_rfl) (by kernel_rfl) (by kernel_rfl) la) (fun x => (evFV_eq lt_eq x).trans (main_eq x))
end F56
/-! g03413/impl.lineBetween -/
namespace F47
abbrev ps : List PM := [.agg [.dat (.pair (.int .i64) (.int .i64))], .agg [.dat (.pair (.int .i64) (.int .i64))], .agg [.dat (.pair (.int .i64) (.int .i64))], .agg [.dat (.pair (.int .i64) (.int .i64))]]
abbrev rs : List PM := [.agg [.dat (.pair (.pair (.int .i64) (.int .i64)) (.pair (.int .i64) (.int .i64)))]]
abbrev X : Type := (((Int × Int) × Unit) × (((Int × Int) × Unit) × (((Int × Int) × Unit) × (((Int × Int) × Unit) × Unit))))
abbrev R : Type := ((((Int × Int) × (Int × Int)) × Unit) × Unit) × Unit
abbrev Y : Type := Option R
noncomputable def T : Tbl := tbl [(29, [⟨F29.ps, F29.rs, F29.den⟩]), (55, [⟨F55.ps, F55.rs, F55.den⟩]), (56, [⟨F56.ps, F56.rs, F56.den⟩])]
noncomputable def c : Code := codeOf Try.f47
noncomputable def la : Nat → Option LAnn := fun k => lookL [] k
noncomputable def fin : Exit → St → Y := retK (finish Try.prog ps rs [.cell 8 55])
noncomputable def O : Ora R := ora []
theorem lt_eq : ltOf Try.prog T 24 [] la c fin = ltv (O) c := by kernel_rfl
noncomputable def d0 (x : X) : Y := (Option.bind (F56.den ((x.2.2.1.1, ()), ((x.1.1, ()), ()))) fun y1 => (Option.bind (F56.den ((x.2.2.2.1.1, ()), ((x.2.1.1, ()), ()))) fun y2 => (Option.bind (F55.den ((y1.1.1.1, ()), ((y2.1.1.1, ()), ()))) fun y3 => (Option.bind (F29.den ((y3.1.1.1, ()), ((x.2.1.1, ()), ()))) fun y4 => (Option.bind (F56.den ((x.1.1, ()), ((y4.1.1.1, ()), ()))) fun y5 => (some ((((y3.1.1.1, y5.1.1.1), ()), ()), ())))))))
noncomputable def den (x : X) : Y := d0 x
theorem main_eq (x : X) : evFV Try.prog T 24 la c [.cell 8 55] ps rs (ltv (O) c) x = d0 x := by kernel_rfl
theorem ok {J : World → Prop} {G : Nat} : Con Try.prog J G 47 ps rs den := by
  have hT : TblOk Try.prog J G T := (tbl_cons (by intro e he; simp only [List.mem_cons, List.not_mem_nil, or_false] at he; subst he; exact F29.ok) (tbl_cons (by intro e he; simp only [List.mem_cons, List.not_mem_nil, or_false] at he; subst he; exact F55.ok) (tbl_cons (by intro e he; simp only [List.mem_cons, List.not_mem_nil, or_false] at he; subst he; exact F56.ok) tbl_nil)))
  exact Con.of_eq (fn_ok (fn := Try.f47) (c := c) (nt := 24) (res := [.cell 8 55]) (ps := ps) (rs := rs) follows hT (by kernel_rfl) (by kernel_rfl) (by kernel_rfl) (by kernel_rfl) (by kernel_rfl) (by kernel_rfl) la) (fun x => (evFV_eq lt_eq x).trans (main_eq x))
end F47
/-! (g03413/impl.line).valid -/
namespace F48
abbrev ps : List PM := [.agg [.dat (.pair (.pair (.int .i64) (.int .i64)) (.pair (.int .i64) (.int .i64)))]]
abbrev rs : List PM := [.c (.dat .bool)]
abbrev X : Type := ((((Int × Int) × (Int × Int)) × Unit) × Unit)
abbrev R : Type := (Bool × Unit) × Unit
abbrev Y : Type := Option R
noncomputable def T : Tbl := tbl [(27, [⟨F27.ps, F27.rs, F27.den⟩])]
noncomputable def c : Code := codeOf Try.f48
noncomputable def la : Nat → Option LAnn := fun k => lookL [] k
noncomputable def fin : Exit → St → Y := retK (finish Try.prog ps rs [.tmp 2])
noncomputable def O : Ora R := ora []
theorem lt_eq : ltOf Try.prog T 11 [] la c fin = ltv (O) c := by kernel_rfl
noncomputable def d0 (x : X) : Y := (Option.bind (F27.den ((x.1.1.1, ()), ())) fun y1 => (if y1.1.1 = true then (Option.bind (F27.den ((x.1.1.2, ()), ())) fun y2 => (some ((y2.1.1, ()), ()))) else (some ((false, ()), ()))))
noncomputable def den (x : X) : Y := d0 x
theorem main_eq (x : X) : evFV Try.prog T 11 la c [.tmp 2] ps rs (ltv (O) c) x = d0 x := by kernel_rfl
theorem ok {J : World → Prop} {G : Nat} : Con Try.prog J G 48 ps rs den := by
  have hT : TblOk Try.prog J G T := (tbl_cons (by intro e he; simp only [List.mem_cons, List.not_mem_nil, or_false] at he; subst he; exact F27.ok) tbl_nil)
  exact Con.of_eq (fn_ok (fn := Try.f48) (c := c) (nt := 11) (res := [.tmp 2]) (ps := ps) (rs := rs) follows hT (by kernel_rfl) (by kernel_rfl) (by kernel_rfl) (by kernel_rfl) (by kernel_rfl) (by kernel_rfl) la) (fun x => (evFV_eq lt_eq x).trans (main_eq x))
end F48
/-! g03413/impl.legBetween -/
namespace F28
abbrev ps : List PM := [.agg [.dat (.pair (.pair (.int .i64) (.int .i64)) (.pair (.pair (.int .i64) (.int .i64)) (.pair (.int .i64) (.int .i64))))], .agg [.dat (.pair (.pair (.int .i64) (.int .i64)) (.pair (.pair (.int .i64) (.int .i64)) (.pair (.int .i64) (.int .i64))))]]
abbrev rs : List PM := [.agg [.dat (.pair (.pair (.int .i64) (.int .i64)) (.pair (.pair (.int .i64) (.int .i64)) (.pair (.pair (.pair (.int .i64) (.int .i64)) (.pair (.int .i64) (.int .i64))) (.pair (.pair (.int .i64) (.int .i64)) (.pair (.int .i64) (.int .i64))))))], .c (.dat .bool)]
abbrev X : Type := ((((Int × Int) × ((Int × Int) × (Int × Int))) × Unit) × ((((Int × Int) × ((Int × Int) × (Int × Int))) × Unit) × Unit))
abbrev R : Type := ((((Int × Int) × ((Int × Int) × (((Int × Int) × (Int × Int)) × ((Int × Int) × (Int × Int))))) × Unit) × (Bool × Unit)) × Unit
abbrev Y : Type := Option R
noncomputable def T : Tbl := tbl [(47, [⟨F47.ps, F47.rs, F47.den⟩]), (48, [⟨F48.ps, F48.rs, F48.den⟩])]
noncomputable def c : Code := codeOf Try.f28
noncomputable def la : Nat → Option LAnn := fun k => lookL [] k
noncomputable def fin : Exit → St → Y := retK (finish Try.prog ps rs [.cell 4 57, .tmp 5])
noncomputable def O : Ora R := ora []
theorem lt_eq : ltOf Try.prog T 39 [] la c fin = ltv (O) c := by kernel_rfl
noncomputable def d0 (x : X) : Y := (Option.bind (F47.den ((x.1.1.2.1, ()), ((x.1.1.1, ()), ((x.2.1.1.2.1, ()), ((x.2.1.1.1, ()), ()))))) fun y1 => (Option.bind (F47.den ((x.1.1.2.2, ()), ((x.1.1.1, ()), ((x.2.1.1.2.2, ()), ((x.2.1.1.1, ()), ()))))) fun y2 => (Option.bind (F48.den ((y1.1.1.1, ()), ())) fun y3 => (if y3.1.1 = true then (Option.bind (F48.den ((y2.1.1.1, ()), ())) fun y4 => (some ((((x.1.1.1, (x.2.1.1.1, (y1.1.1.1, y2.1.1.1))), ()), (y4.1.1, ())), ()))) else (some ((((x.1.1.1, (x.2.1.1.1, (y1.1.1.1, y2.1.1.1))), ()), (false, ())), ()))))))
noncomputable def den (x : X) : Y := d0 x
theorem main_eq (x : X) : evFV Try.prog T 39 la c [.cell 4 57, .tmp 5] ps rs (ltv (O) c) x = d0 x := by kernel_rfl
theorem ok {J : World → Prop} {G : Nat} : Con Try.prog J G 28 ps rs den := by
  have hT : TblOk Try.prog J G T := (tbl_cons (by intro e he; simp only [List.mem_cons, List.not_mem_nil, or_false] at he; subst he; exact F47.ok) (tbl_cons (by intro e he; simp only [List.mem_cons, List.not_mem_nil, or_false] at he; subst he; exact F48.ok) tbl_nil))
  exact Con.of_eq (fn_ok (fn := Try.f28) (c := c) (nt := 39) (res := [.cell 4 57, .tmp 5]) (ps := ps) (rs := rs) follows hT (by kernel_rfl) (by kernel_rfl) (by kernel_rfl) (by kernel_rfl) (by kernel_rfl) (by kernel_rfl) la) (fun x => (evFV_eq lt_eq x).trans (main_eq x))
end F28
/-! g03413/impl.IsPoint -/
namespace F30
abbrev ps : List PM := [.c (.dat (.sl (.pair (.int .i64) (.int .i64)))), .c (.dat (.int .i64))]
abbrev rs : List PM := [.c (.dat .bool)]
abbrev X : Type := ((List (Int × Int)) × (Int × Unit))
abbrev R : Type := (Bool × Unit) × Unit
abbrev Y : Type := Option R
noncomputable def T : Tbl := tbl [(27, [⟨F27.ps, F27.rs, F27.den⟩])]
noncomputable def c : Code := codeOf Try.f30
abbrev X0 : Type := ((List (Int × Int)) × (Int × (Int × Unit)))
noncomputable def a0 : LAnn := ⟨[11, 12, 13], [.c (.dat (.sl (.pair (.int .i64) (.int .i64)))), .c (.dat (.int .i64)), .c (.dat (.int .i64))]⟩
noncomputable def la : Nat → Option LAnn := fun k => lookL [(4, a0)] k
noncomputable def fin : Exit → St → Y := retK (finish Try.prog ps rs [.tmp 4])
noncomputable def O (l0 : X0 → Y) : Ora R := ora [(4, ⟨a0, l0⟩)]
noncomputable def c0 : Code := atP c [1, 1, 0, 1, 0, 0]
noncomputable def k0 : Exit → St → Y := kAt Try.prog T 21 [] la c [1, 1, 0, 1, 0] fin
noncomputable def kD0 (l0 : X0 → Y) : Exit → St → Y := kAtD Try.prog T 21 [] la c [1, 1, 0, 1, 0] (ltv (O l0) c) fin
noncomputable def w0 : Nat → X0 → Y := lpAt Try.prog T 21 [] la a0 c0 k0
noncomputable def O0 : Ora R := ora []
theorem lt_eq : ltOf Try.prog T 21 [] la c fin = ltv (O (w0 big)) c := by kernel_rfl
theorem lt0_eq (r0 : X0 → Y) : ltOf Try.prog T 21 [] la c0 (contOf a0 k0 r0) = ltv (O0) c0 := by kernel_rfl
theorem kD0_eq : k0 = kD0 (w0 big) := contV_eq rfl lt_eq
noncomputable def b0 (r0 : X0 → Y) (x : X0) : Y := (if (decide ((x.2.2.1 : Int) < x.2.1)) = true then (if (decide (0 ≤ (x.2.2.1 : Int)) && decide (x.2.2.1 < ((List.length x.1 : Nat) : Int))) = true then (Option.bind (F27.den (((gt (.pair (.int .i64) (.int .i64)) x.1 (Int.toNat x.2.2.1)), ()), ())) fun y1 => (if (!y1.1.1) = true then (some ((false, ()), ())) else (r0 (x.1, (x.2.1, ((IntKind.wrap .i64 (x.2.2.1 + 1)), ())))))) else none) else (some ((true, ()), ())))
noncomputable def B0 (r0 : X0 → Y) (x : X0) : Y := b0 r0 x
noncomputable def L0 : Nat → X0 → Y := itr B0
theorem rnd0 (l0 : X0 → Y) (r0 : X0 → Y) (x : X0) : rndV Try.prog T 21 [] la a0 c0 (ltv (O0) c0) (kD0 l0) r0 x = b0 r0 x := by kernel_rfl
theorem rd0 (r0 : X0 → Y) (x : X0) : rndAt Try.prog T 21 [] la a0 c0 k0 r0 x = B0 r0 x :=
  have h : rndAt Try.prog T 21 [] la a0 c0 k0 r0 x = rndV Try.prog T 21 [] la a0 c0 (ltv (O0) c0) (kD0 (w0 big)) r0 x := rndV_eq (ann := a0) kD0_eq (lt0_eq r0) x
  h.trans (rnd0 (w0 big) r0 x)
theorem w0_eq : w0 = L0 := by exact lp_itr (P := Try.prog) (Δ := T) (nt := 21) (fp := []) (la := la) (R := R) (ann := a0) (body := c0) (K := k0) (B := B0) (fun r0 x => rd0 r0 x)
noncomputable def d0 (l0 : X0 → Y) (x : X) : Y := (if (((((List.length x.1) : Nat) : Int) : Int) != x.2.1) = true then (some ((false, ()), ())) else (l0 (x.1, ((((List.length x.1) : Nat) : Int), (0, ())))))
noncomputable def den (x : X) : Y := d0 (L0 big) x
theorem main_eq (l0 : X0 → Y) (x : X) : evFV Try.prog T 21 la c [.tmp 4] ps rs (ltv (O l0) c) x = d0 l0 x := by kernel_rfl
theorem ok {J : World → Prop} {G : Nat} : Con Try.prog J G 30 ps rs den := by
  have hT : TblOk Try.prog J G T := (tbl_cons (by intro e he; simp only [List.mem_cons, List.not_mem_nil, or_false] at he; subst he; exact F27.ok) tbl_nil)
  exact Con.of_eq (fn_ok (fn := Try.f30) (c := c) (nt := 21) (res := [.tmp 4]) (ps := ps) (rs := rs) follows hT (by kernel_rfl) (by kernel_rfl) (by kernel_rfl) (by kernel_rfl) (by kernel_rfl) (by kernel_rfl) la) (fun x => (evFV_eq lt_eq x).trans ((main_eq (w0 big) x).trans (by rw [w0_eq]; rfl)))
end F30
/-! g03413/impl.PositionAt -/
namespace F10
abbrev ps : List PM := [.c (.dat (.sl (.pair (.pair (.int .i64) (.int .i64)) (.pair (.pair (.int .i64) (.int .i64)) (.pair (.int .i64) (.int .i64)))))), .agg [.dat (.pair (.int .i64) (.int .i64))]]
abbrev rs : List PM := [.c (.own true (.pair (.int .i64) (.int .i64))), .c (.dat .bool)]
abbrev X : Type := ((List ((Int × Int) × ((Int × Int) × (Int × Int)))) × (((Int × Int) × Unit) × Unit))
abbrev R : Type := ((List (Int × Int)) × (Bool × Unit)) × Unit
abbrev Y : Type := Option R
noncomputable def T : Tbl := tbl [(17, [⟨F17.ps, F17.rs, F17.den⟩]), (24, [⟨F24.ps, F24.rs, F24.den⟩]), (25, [⟨F25.ps, F25.rs, F25.den⟩]), (27, [⟨F27.ps, F27.rs, F27.den⟩]), (28, [⟨F28.ps, F28.rs, F28.den⟩]), (29, [⟨F29.ps, F29.rs, F29.den⟩]), (30, [⟨F30.ps, F30.rs, F30.den⟩])]
noncomputable def c : Code := codeOf Try.f10
abbrev X0 : Type := ((List ((Int × Int) × ((Int × Int) × (Int × Int)))) × (((Int × Int) × Unit) × ((List ((Int × Int) × ((Int × Int) × (Int × Int)))) × (Int × (Int × Unit)))))
noncomputable def a0 : LAnn := ⟨[0, 3, 20, 21, 22], [.c (.dat (.sl (.pair (.pair (.int .i64) (.int .i64)) (.pair (.pair (.int .i64) (.int .i64)) (.pair (.int .i64) (.int .i64)))))), .ptr [.dat (.pair (.int .i64) (.int .i64))], .c (.dat (.sl (.pair (.pair (.int .i64) (.int .i64)) (.pair (.pair (.int .i64) (.int .i64)) (.pair (.int .i64) (.int .i64)))))), .c (.dat (.int .i64)), .c (.dat (.int .i64))]⟩
noncomputable def la : Nat → Option LAnn := fun k => lookL [(4, a0)] k
noncomputable def fin : Exit → St → Y := retK (finish Try.prog ps rs [.tmp 4, .tmp 5])
noncomputable def O (l0 : X0 → Y) : Ora R := ora [(4, ⟨a0, l0⟩)]
noncomputable def c0 : Code := atP c [1, 1, 0, 1, 0, 0]
noncomputable def k0 : Exit → St → Y := kAt Try.prog T 78 [] la c [1, 1, 0, 1, 0] fin
noncomputable def kD0 (l0 : X0 → Y) : Exit → St → Y := kAtD Try.prog T 78 [] la c [1, 1, 0, 1, 0] (ltv (O l0) c) fin
noncomputable def w0 : Nat → X0 → Y := lpAt Try.prog T 78 [] la a0 c0 k0
noncomputable def O0 : Ora R := ora []
theorem lt_eq : ltOf Try.prog T 78 [] la c fin = ltv (O (w0 big)) c := by kernel_rfl
theorem lt0_eq (r0 : X0 → Y) : ltOf Try.prog T 78 [] la c0 (contOf a0 k0 r0) = ltv (O0) c0 := by kernel_rfl
theorem kD0_eq : k0 = kD0 (w0 big) := contV_eq rfl lt_eq
noncomputable def b0 (r0 : X0 → Y) (x : X0) : Y := (if (decide ((x.2.2.2.2.1 : Int) < x.2.2.2.1)) = true then (if (decide (0 ≤ (x.2.2.2.2.1 : Int)) && decide (x.2.2.2.2.1 < ((List.length x.2.2.1 : Nat) : Int))) = true then (Option.bind (F17.den ((x.2.1.1, ()), (((gt (.pair (.pair (.int .i64) (.int .i64)) (.pair (.pair (.int .i64) (.int .i64)) (.pair (.int .i64) (.int .i64)))) x.2.2.1 (Int.toNat x.2.2.2.2.1)).1, ()), ()))) fun y3 => (if ((y3.1.1 : Int) == 0) = true then (some (([(gt (.pair (.pair (.int .i64) (.int .i64)) (.pair (.pair (.int .i64) (.int .i64)) (.pair (.int .i64) (.int .i64)))) x.2.2.1 (Int.toNat x.2.2.2.2.1)).2.1, (gt (.pair (.pair (.int .i64) (.int .i64)) (.pair (.pair (.int .i64) (.int .i64)) (.pair (.int .i64) (.int .i64)))) x.2.2.1 (Int.toNat x.2.2.2.2.1)).2.2], (true, ())), ())) else (if (decide ((y3.1.1 : Int) > 0)) = true then (r0 (x.1, ((x.2.1.1, ()), (x.2.2.1, (x.2.2.2.1, ((IntKind.wrap .i64 (x.2.2.2.2.1 + 1)), ())))))) else (if ((x.2.2.2.2.1 : Int) == 0) = true then (some ((([] : List (Int × Int)), (false, ())), ())) else (if (decide (0 ≤ ((IntKind.wrap .i64 (x.2.2.2.2.1 - 1)) : Int)) && decide ((IntKind.wrap .i64 (x.2.2.2.2.1 - 1)) < ((List.length x.1 : Nat) : Int))) = true then (Option.bind (F28.den (((gt (.pair (.pair (.int .i64) (.int .i64)) (.pair (.pair (.int .i64) (.int .i64)) (.pair (.int .i64) (.int .i64)))) x.1 (Int.toNat (IntKind.wrap .i64 (x.2.2.2.2.1 - 1)))), ()), (((gt (.pair (.pair (.int .i64) (.int .i64)) (.pair (.pair (.int .i64) (.int .i64)) (.pair (.int .i64) (.int .i64)))) x.2.2.1 (Int.toNat x.2.2.2.2.1)), ()), ()))) fun y4 => (if (!y4.1.2.1) = true then (some ((([] : List (Int × Int)), (false, ())), ())) else (Option.bind (F29.den ((y4.1.1.1.2.2.1.1, ()), ((x.2.1.1, ()), ()))) fun y5 => (Option.bind (F25.den ((y5.1.1.1, ()), ((y4.1.1.1.2.2.1.2, ()), ()))) fun y6 => (Option.bind (F29.den ((y4.1.1.1.2.2.2.1, ()), ((x.2.1.1, ()), ()))) fun y7 => (Option.bind (F25.den ((y7.1.1.1, ()), ((y4.1.1.1.2.2.2.2, ()), ()))) fun y8 => (Option.bind (F30.den ([y6.1.1.1, y8.1.1.1], (2, ()))) fun y9 => (if (!y9.1.1) = true then (some ((([] : List (Int × Int)), (false, ())), ())) else (some (([y6.1.1.1, y8.1.1.1], (true, ())), ())))))))))) else none))))) else none) else (some ((([] : List (Int × Int)), (false, ())), ())))
noncomputable def B0 (r0 : X0 → Y) (x : X0) : Y := b0 r0 x
noncomputable def L0 : Nat → X0 → Y := itr B0
theorem rnd0 (l0 : X0 → Y) (r0 : X0 → Y) (x : X0) : rndV Try.prog T 78 [] la a0 c0 (ltv (O0) c0) (kD0 l0) r0 x = b0 r0 x := by kernel_rfl
theorem rd0 (r0 : X0 → Y) (x : X0) : rndAt Try.prog T 78 [] la a0 c0 k0 r0 x = B0 r0 x :=
  have h : rndAt Try.prog T 78 [] la a0 c0 k0 r0 x = rndV Try.prog T 78 [] la a0 c0 (ltv (O0) c0) (kD0 (w0 big)) r0 x := rndV_eq (ann := a0) kD0_eq (lt0_eq r0) x
  h.trans (rnd0 (w0 big) r0 x)
theorem w0_eq : w0 = L0 := by exact lp_itr (P := Try.prog) (Δ := T) (nt := 78) (fp := []) (la := la) (R := R) (ann := a0) (body := c0) (K := k0) (B := B0) (fun r0 x => rd0 r0 x)
noncomputable def d0 (l0 : X0 → Y) (x : X) : Y := (Option.bind (F24.den (x.1, ())) fun y1 => (if (!y1.1.1) = false then (Option.bind (F27.den ((x.2.1.1, ()), ())) fun y2 => (if (!y2.1.1) = true then (some ((([] : List (Int × Int)), (false, ())), ())) else (l0 (x.1, ((x.2.1.1, ()), (x.1, ((((List.length x.1) : Nat) : Int), (0, ())))))))) else (some ((([] : List (Int × Int)), (false, ())), ()))))
noncomputable def den (x : X) : Y := d0 (L0 big) x
theorem main_eq (l0 : X0 → Y) (x : X) : evFV Try.prog T 78 la c [.tmp 4, .tmp 5] ps rs (ltv (O l0) c) x = d0 l0 x := by kernel_rfl
theorem ok {J : World → Prop} {G : Nat} : Con Try.prog J G 10 ps rs den := by
  have hT : TblOk Try.prog J G T := (tbl_cons (by intro e he; simp only [List.mem_cons, List.not_mem_nil, or_false] at he; subst he; exact F17.ok) (tbl_cons (by intro e he; simp only [List.mem_cons, List.not_mem_nil, or_false] at he; subst he; exact F24.ok) (tbl_cons (by intro e he; simp only [List.mem_cons, List.not_mem_nil, or_false] at he; subst he; exact F25.ok) (tbl_cons (by intro e he; simp only [List.mem_cons, List.not_mem_nil, or_false] at he; subst he; exact F27.ok) (tbl_cons (by intro e he; simp only [List.mem_cons, List.not_mem_nil, or_false] at he; subst he; exact F28.ok) (tbl_cons (by intro e he; simp only [List.mem_cons, List.not_mem_nil, or_false] at he; subst he; exact F29.ok) (tbl_cons (by intro e he; simp only [List.mem_cons, List.not_mem_nil, or_false] at he; subst he; exact F30.ok) tbl_nil)))))))
  exact Con.of_eq (fn_ok (fn := Try.f10) (c := c) (nt := 78) (res := [.tmp 4, .tmp 5]) (ps := ps) (rs := rs) follows hT (by kernel_rfl) (by kernel_rfl) (by kernel_rfl) (by kernel_rfl) (by kernel_rfl) (by kernel_rfl) la) (fun x => (evFV_eq lt_eq x).trans ((main_eq (w0 big) x).trans (by rw [w0_eq]; rfl)))
end F10
/-! g03413/impl.legsOf -/
namespace F33
abbrev ps : List PM := [.c (.dat (.sl (.pair (.pair (.int .i64) (.int .i64)) (.pair (.pair (.int .i64) (.int .i64)) (.pair (.int .i64) (.int .i64))))))]
abbrev rs : List PM := [.c (.own true (.pair (.pair (.int .i64) (.int .i64)) (.pair (.pair (.int .i64) (.int .i64)) (.pair (.pair (.pair (.int .i64) (.int .i64)) (.pair (.int .i64) (.int .i64))) (.pair (.pair (.int .i64) (.int .i64)) (.pair (.int .i64) (.int .i64))))))), .c (.dat .bool)]
abbrev X : Type := ((List ((Int × Int) × ((Int × Int) × (Int × Int)))) × Unit)
abbrev R : Type := ((List ((Int × Int) × ((Int × Int) × (((Int × Int) × (Int × Int)) × ((Int × Int) × (Int × Int)))))) × (Bool × Unit)) × Unit
abbrev Y : Type := Option R
noncomputable def T : Tbl := tbl [(24, [⟨F24.ps, F24.rs, F24.den⟩]), (28, [⟨F28.ps, F28.rs, F28.den⟩])]
noncomputable def c : Code := codeOf Try.f33
abbrev X0 : Type := ((List ((Int × Int) × ((Int × Int) × (Int × Int)))) × ((List ((Int × Int) × ((Int × Int) × (((Int × Int) × (Int × Int)) × ((Int × Int) × (Int × Int)))))) × (Int × Unit)))
noncomputable def a0 : LAnn := ⟨[0, 6, 7], [.c (.dat (.sl (.pair (.pair (.int .i64) (.int .i64)) (.pair (.pair (.int .i64) (.int .i64)) (.pair (.int .i64) (.int .i64)))))), .c (.own true (.pair (.pair (.int .i64) (.int .i64)) (.pair (.pair (.int .i64) (.int .i64)) (.pair (.pair (.pair (.int .i64) (.int .i64)) (.pair (.int .i64) (.int .i64))) (.pair (.pair (.int .i64) (.int .i64)) (.pair (.int .i64) (.int .i64))))))), .c (.dat (.int .i64))]⟩
noncomputable def la : Nat → Option LAnn := fun k => lookL [(8, a0)] k
noncomputable def fin : Exit → St → Y := retK (finish Try.prog ps rs [.tmp 2, .tmp 3])
noncomputable def O (l0 : X0 → Y) : Ora R := ora [(8, ⟨a0, l0⟩)]
noncomputable def c0 : Code := atP c [1, 1, 1, 1, 0, 1, 0, 0]
noncomputable def k0 : Exit → St → Y := kAt Try.prog T 61 [] la c [1, 1, 1, 1, 0, 1, 0] fin
noncomputable def kD0 (l0 : X0 → Y) : Exit → St → Y := kAtD Try.prog T 61 [] la c [1, 1, 1, 1, 0, 1, 0] (ltv (O l0) c) fin
noncomputable def w0 : Nat → X0 → Y := lpAt Try.prog T 61 [] la a0 c0 k0
noncomputable def O0 : Ora R := ora []
theorem lt_eq : ltOf Try.prog T 61 [] la c fin = ltv (O (w0 big)) c := by kernel_rfl
theorem lt0_eq (r0 : X0 → Y) : ltOf Try.prog T 61 [] la c0 (contOf a0 k0 r0) = ltv (O0) c0 := by kernel_rfl
theorem kD0_eq : k0 = kD0 (w0 big) := contV_eq rfl lt_eq
noncomputable def b0 (r0 : X0 → Y) (x : X0) : Y := (if (decide ((x.2.2.1 : Int) < (((List.length x.1) : Nat) : Int))) = true then (if (decide (0 ≤ ((IntKind.wrap .i64 (x.2.2.1 - 1)) : Int)) && decide ((IntKind.wrap .i64 (x.2.2.1 - 1)) < ((List.length x.1 : Nat) : Int))) = true then (if (decide (0 ≤ (x.2.2.1 : Int)) && decide (x.2.2.1 < ((List.length x.1 : Nat) : Int))) = true then (Option.bind (F28.den (((gt (.pair (.pair (.int .i64) (.int .i64)) (.pair (.pair (.int .i64) (.int .i64)) (.pair (.int .i64) (.int .i64)))) x.1 (Int.toNat (IntKind.wrap .i64 (x.2.2.1 - 1)))), ()), (((gt (.pair (.pair (.int .i64) (.int .i64)) (.pair (.pair (.int .i64) (.int .i64)) (.pair (.int .i64) (.int .i64)))) x.1 (Int.toNat x.2.2.1)), ()), ()))) fun y2 => (if (!y2.1.2.1) = true then (some ((([] : List ((Int × Int) × ((Int × Int) × (((Int × Int) × (Int × Int)) × ((Int × Int) × (Int × Int)))))), (false, ())), ())) else (if (decide (List.length x.2.1 + List.length [y2.1.1.1] ≤ cap36)) = true then (r0 (x.1, ((x.2.1 ++ [y2.1.1.1]), ((IntKind.wrap .i64 (x.2.2.1 + 1)), ())))) else none))) else none) else none) else (some ((x.2.1, (true, ())), ())))
noncomputable def B0 (r0 : X0 → Y) (x : X0) : Y := b0 r0 x
noncomputable def L0 : Nat → X0 → Y := itr B0
theorem rnd0 (l0 : X0 → Y) (r0 : X0 → Y) (x : X0) : rndV Try.prog T 61 [] la a0 c0 (ltv (O0) c0) (kD0 l0) r0 x = b0 r0 x := by kernel_rfl
theorem rd0 (r0 : X0 → Y) (x : X0) : rndAt Try.prog T 61 [] la a0 c0 k0 r0 x = B0 r0 x :=
  have h : rndAt Try.prog T 61 [] la a0 c0 k0 r0 x = rndV Try.prog T 61 [] la a0 c0 (ltv (O0) c0) (kD0 (w0 big)) r0 x := rndV_eq (ann := a0) kD0_eq (lt0_eq r0) x
  h.trans (rnd0 (w0 big) r0 x)
theorem w0_eq : w0 = L0 := by exact lp_itr (P := Try.prog) (Δ := T) (nt := 61) (fp := []) (la := la) (R := R) (ann := a0) (body := c0) (K := k0) (B := B0) (fun r0 x => rd0 r0 x)
noncomputable def d0 (l0 : X0 → Y) (x : X) : Y := (Option.bind (F24.den (x.1, ())) fun y1 => (if (!y1.1.1) = true then (some ((([] : List ((Int × Int) × ((Int × Int) × (((Int × Int) × (Int × Int)) × ((Int × Int) × (Int × Int)))))), (false, ())), ())) else (if (((((List.length x.1) : Nat) : Int) : Int) == 1) = true then (if (decide (0 ≤ (0 : Int)) && decide (0 < ((List.length x.1 : Nat) : Int))) = true then (some (([((gt (.pair (.pair (.int .i64) (.int .i64)) (.pair (.pair (.int .i64) (.int .i64)) (.pair (.int .i64) (.int .i64)))) x.1 (Int.toNat 0)).1, ((gt (.pair (.pair (.int .i64) (.int .i64)) (.pair (.pair (.int .i64) (.int .i64)) (.pair (.int .i64) (.int .i64)))) x.1 (Int.toNat 0)).1, (((0, 1), (gt (.pair (.pair (.int .i64) (.int .i64)) (.pair (.pair (.int .i64) (.int .i64)) (.pair (.int .i64) (.int .i64)))) x.1 (Int.toNat 0)).2.1), ((0, 1), (gt (.pair (.pair (.int .i64) (.int .i64)) (.pair (.pair (.int .i64) (.int .i64)) (.pair (.int .i64) (.int .i64)))) x.1 (Int.toNat 0)).2.2))))], (true, ())), ())) else none) else (l0 (x.1, (([] : List ((Int × Int) × ((Int × Int) × (((Int × Int) × (Int × Int)) × ((Int × Int) × (Int × Int)))))), (1, ())))))))
noncomputable def den (x : X) : Y := d0 (L0 big) x
theorem main_eq (l0 : X0 → Y) (x : X) : evFV Try.prog T 61 la c [.tmp 2, .tmp 3] ps rs (ltv (O l0) c) x = d0 l0 x := by kernel_rfl
theorem ok {J : World → Prop} {G : Nat} : Con Try.prog J G 33 ps rs den := by
  have hT : TblOk Try.prog J G T := (tbl_cons (by intro e he; simp only [List.mem_cons, List.not_mem_nil, or_false] at he; subst he; exact F24.ok) (tbl_cons (by intro e he; simp only [List.mem_cons, List.not_mem_nil, or_false] at he; subst he; exact F28.ok) tbl_nil))
  exact Con.of_eq (fn_ok (fn := Try.f33) (c := c) (nt := 61) (res := [.tmp 2, .tmp 3]) (ps := ps) (rs := rs) follows hT (by kernel_rfl) (by kernel_rfl) (by kernel_rfl) (by kernel_rfl) (by kernel_rfl) (by kernel_rfl) la) (fun x => (evFV_eq lt_eq x).trans ((main_eq (w0 big) x).trans (by rw [w0_eq]; rfl)))
end F33
/-! g03413/impl.SpeedOf -/
namespace F12
abbrev ps : List PM := [.c (.dat (.sl (.pair (.pair (.int .i64) (.int .i64)) (.pair (.pair (.int .i64) (.int .i64)) (.pair (.int .i64) (.int .i64))))))]
abbrev rs : List PM := [.agg [.dat (.pair (.int .i64) (.int .i64))], .c (.dat .bool)]
abbrev X : Type := ((List ((Int × Int) × ((Int × Int) × (Int × Int)))) × Unit)
abbrev R : Type := (((Int × Int) × Unit) × (Bool × Unit)) × Unit
abbrev Y : Type := Option R
noncomputable def T : Tbl := tbl [(17, [⟨F17.ps, F17.rs, F17.den⟩]), (33, [⟨F33.ps, F33.rs, F33.den⟩]), (34, [⟨F34.ps, F34.rs, F34.den⟩])]
noncomputable def c : Code := codeOf Try.f12
abbrev X0 : Type := (((Int × Int) × Unit) × (((Int × Int) × Unit) × ((List ((Int × Int) × ((Int × Int) × (((Int × Int) × (Int × Int)) × ((Int × Int) × (Int × Int)))))) × (Int × (Int × Unit)))))
noncomputable def a0 : LAnn := ⟨[2, 6, 20, 21, 22], [.ptr [.dat (.pair (.int .i64) (.int .i64))], .ptr [.dat (.pair (.int .i64) (.int .i64))], .c (.dat (.sl (.pair (.pair (.int .i64) (.int .i64)) (.pair (.pair (.int .i64) (.int .i64)) (.pair (.pair (.pair (.int .i64) (.int .i64)) (.pair (.int .i64) (.int .i64))) (.pair (.pair (.int .i64) (.int .i64)) (.pair (.int .i64) (.int .i64)))))))), .c (.dat (.int .i64)), .c (.dat (.int .i64))]⟩
abbrev X1 : Type := (((Int × Int) × Unit) × (((Int × Int) × Unit) × ((List ((Int × Int) × ((Int × Int) × (((Int × Int) × (Int × Int)) × ((Int × Int) × (Int × Int)))))) × (Int × (Int × ((List (Int × Int)) × (Int × (Int × Unit))))))))
noncomputable def a1 : LAnn := ⟨[2, 6, 20, 21, 22, 32, 33, 34], [.ptr [.dat (.pair (.int .i64) (.int .i64))], .ptr [.dat (.pair (.int .i64) (.int .i64))], .c (.dat (.sl (.pair (.pair (.int .i64) (.int .i64)) (.pair (.pair (.int .i64) (.int .i64)) (.pair (.pair (.pair (.int .i64) (.int .i64)) (.pair (.int .i64) (.int .i64))) (.pair (.pair (.int .i64) (.int .i64)) (.pair (.int .i64) (.int .i64)))))))), .c (.dat (.int .i64)), .c (.dat (.int .i64)), .c (.dat (.sl (.pair (.int .i64) (.int .i64)))), .c (.dat (.int .i64)), .c (.dat (.int .i64))]⟩
noncomputable def la : Nat → Option LAnn := fun k => lookL [(6, a0), (9, a1)] k
noncomputable def fin : Exit → St → Y := retK (finish Try.prog ps rs [.cell 2 26, .tmp 3])
noncomputable def O (l0 : X0 → Y) : Ora R := ora [(6, ⟨a0, l0⟩)]
noncomputable def c0 : Code := atP c [1, 1, 1, 1, 0, 1, 0, 0]
noncomputable def k0 : Exit → St → Y := kAt Try.prog T 50 [] la c [1, 1, 1, 1, 0, 1, 0] fin
noncomputable def kD0 (l0 : X0 → Y) : Exit → St → Y := kAtD Try.prog T 50 [] la c [1, 1, 1, 1, 0, 1, 0] (ltv (O l0) c) fin
noncomputable def w0 : Nat → X0 → Y := lpAt Try.prog T 50 [] la a0 c0 k0
noncomputable def O0 (l1 : X1 → Y) : Ora R := ora [(9, ⟨a1, l1⟩)]
noncomputable def c1 : Code := atP c0 [1, 1, 0, 0, 1, 1, 0, 0]
noncomputable def k1 (r0 : X0 → Y) : Exit → St → Y := kAt Try.prog T 50 [] la c0 [1, 1, 0, 0, 1, 1, 0] (contOf a0 k0 r0)
noncomputable def kD1 (r0 : X0 → Y) (l0 : X0 → Y) (l1 : X1 → Y) : Exit → St → Y := kAtD Try.prog T 50 [] la c0 [1, 1, 0, 0, 1, 1, 0] (ltv (O0 l1) c0) (contOf a0 (kD0 l0) r0)
noncomputable def w1 (r0 : X0 → Y) : Nat → X1 → Y := lpAt Try.prog T 50 [] la a1 c1 (k1 r0)
noncomputable def O1 : Ora R := ora []
theorem lt_eq : ltOf Try.prog T 50 [] la c fin = ltv (O (w0 big)) c := by kernel_rfl
theorem lt0_eq (r0 : X0 → Y) : ltOf Try.prog T 50 [] la c0 (contOf a0 k0 r0) = ltv (O0 (w1 r0 big)) c0 := by kernel_rfl
theorem kD0_eq : k0 = kD0 (w0 big) := contV_eq rfl lt_eq
theorem lt1_eq (r0 : X0 → Y) (r1 : X1 → Y) : ltOf Try.prog T 50 [] la c1 (contOf a1 (k1 r0) r1) = ltv (O1) c1 := by kernel_rfl
theorem kD1_eq (r0 : X0 → Y) : k1 r0 = kD1 r0 (w0 big) (w1 r0 big) := contV_eq (contOf_eq (ann := a0) kD0_eq r0) (lt0_eq r0)
noncomputable def b1 (r0 : X0 → Y) (r1 : X1 → Y) (x : X1) : Y := (if (decide ((x.2.2.2.2.2.2.2.1 : Int) < x.2.2.2.2.2.2.1)) = true then (if (decide (0 ≤ (x.2.2.2.2.2.2.2.1 : Int)) && decide (x.2.2.2.2.2.2.2.1 < ((List.length x.2.2.2.2.2.1 : Nat) : Int))) = true then (Option.bind (F34.den ((gt (.pair (.int .i64) (.int .i64)) x.2.2.2.2.2.1 (Int.toNat x.2.2.2.2.2.2.2.1)).1, ())) fun y2 => (Option.bind (F17.den (((y2.1.1, (gt (.pair (.int .i64) (.int .i64)) x.2.2.2.2.2.1 (Int.toNat x.2.2.2.2.2.2.2.1)).2), ()), ((x.2.1.1, ()), ()))) fun y3 => (if (decide ((y3.1.1 : Int) > 0)) = true then (r1 ((x.1.1, ()), (((y2.1.1, (gt (.pair (.int .i64) (.int .i64)) x.2.2.2.2.2.1 (Int.toNat x.2.2.2.2.2.2.2.1)).2), ()), (x.2.2.1, (x.2.2.2.1, (x.2.2.2.2.1, (x.2.2.2.2.2.1, (x.2.2.2.2.2.2.1, ((IntKind.wrap .i64 (x.2.2.2.2.2.2.2.1 + 1)), ()))))))))) else (r1 ((x.1.1, ()), ((x.2.1.1, ()), (x.2.2.1, (x.2.2.2.1, (x.2.2.2.2.1, (x.2.2.2.2.2.1, (x.2.2.2.2.2.2.1, ((IntKind.wrap .i64 (x.2.2.2.2.2.2.2.1 + 1)), ())))))))))))) else none) else (r0 ((x.1.1, ()), ((x.2.1.1, ()), (x.2.2.1, (x.2.2.2.1, ((IntKind.wrap .i64 (x.2.2.2.2.1 + 1)), ())))))))
noncomputable def B1 (r0 : X0 → Y) (r1 : X1 → Y) (x : X1) : Y := b1 r0 r1 x
noncomputable def L1 (r0 : X0 → Y) : Nat → X1 → Y := itr (B1 r0)
theorem rnd1 (r0 : X0 → Y) (l0 : X0 → Y) (l1 : X1 → Y) (r1 : X1 → Y) (x : X1) : rndV Try.prog T 50 [] la a1 c1 (ltv (O1) c1) (kD1 r0 l0 l1) r1 x = b1 r0 r1 x := by kernel_rfl
theorem rd1 (r0 : X0 → Y) (r1 : X1 → Y) (x : X1) : rndAt Try.prog T 50 [] la a1 c1 (k1 r0) r1 x = B1 r0 r1 x :=
  have h : rndAt Try.prog T 50 [] la a1 c1 (k1 r0) r1 x = rndV Try.prog T 50 [] la a1 c1 (ltv (O1) c1) (kD1 r0 (w0 big) (w1 r0 big)) r1 x := rndV_eq (ann := a1) (kD1_eq r0) (lt1_eq r0 r1) x
  h.trans (rnd1 r0 (w0 big) (w1 r0 big) r1 x)
theorem w1_eq : w1 = L1 := by funext r0; exact lp_itr (P := Try.prog) (Δ := T) (nt := 50) (fp := []) (la := la) (R := R) (ann := a1) (body := c1) (K := (k1 r0)) (B := (B1 r0)) (fun r1 x => rd1 r0 r1 x)
noncomputable def b0 (l1 : X1 → Y) (r0 : X0 → Y) (x : X0) : Y := (if (decide ((x.2.2.2.2.1 : Int) < x.2.2.2.1)) = true then (if (decide (0 ≤ (x.2.2.2.2.1 : Int)) && decide (x.2.2.2.2.1 < ((List.length x.2.2.1 : Nat) : Int))) = true then (l1 ((x.1.1, ()), ((x.2.1.1, ()), (x.2.2.1, (x.2.2.2.1, (x.2.2.2.2.1, ([(gt (.pair (.pair (.int .i64) (.int .i64)) (.pair (.pair (.int .i64) (.int .i64)) (.pair (.pair (.pair (.int .i64) (.int .i64)) (.pair (.int .i64) (.int .i64))) (.pair (.pair (.int .i64) (.int .i64)) (.pair (.int .i64) (.int .i64)))))) x.2.2.1 (Int.toNat x.2.2.2.2.1)).2.2.1.1, (gt (.pair (.pair (.int .i64) (.int .i64)) (.pair (.pair (.int .i64) (.int .i64)) (.pair (.pair (.pair (.int .i64) (.int .i64)) (.pair (.int .i64) (.int .i64))) (.pair (.pair (.int .i64) (.int .i64)) (.pair (.int .i64) (.int .i64)))))) x.2.2.1 (Int.toNat x.2.2.2.2.1)).2.2.2.1], ((((List.length [(gt (.pair (.pair (.int .i64) (.int .i64)) (.pair (.pair (.int .i64) (.int .i64)) (.pair (.pair (.pair (.int .i64) (.int .i64)) (.pair (.int .i64) (.int .i64))) (.pair (.pair (.int .i64) (.int .i64)) (.pair (.int .i64) (.int .i64)))))) x.2.2.1 (Int.toNat x.2.2.2.2.1)).2.2.1.1, (gt (.pair (.pair (.int .i64) (.int .i64)) (.pair (.pair (.int .i64) (.int .i64)) (.pair (.pair (.pair (.int .i64) (.int .i64)) (.pair (.int .i64) (.int .i64))) (.pair (.pair (.int .i64) (.int .i64)) (.pair (.int .i64) (.int .i64)))))) x.2.2.1 (Int.toNat x.2.2.2.2.1)).2.2.2.1]) : Nat) : Int), (0, ()))))))))) else none) else (some (((x.2.1.1, ()), (true, ())), ())))
noncomputable def B0 (r0 : X0 → Y) (x : X0) : Y := b0 (L1 r0 big) r0 x
noncomputable def L0 : Nat → X0 → Y := itr B0
theorem rnd0 (l0 : X0 → Y) (l1 : X1 → Y) (r0 : X0 → Y) (x : X0) : rndV Try.prog T 50 [] la a0 c0 (ltv (O0 l1) c0) (kD0 l0) r0 x = b0 l1 r0 x := by kernel_rfl
theorem rd0 (r0 : X0 → Y) (x : X0) : rndAt Try.prog T 50 [] la a0 c0 k0 r0 x = B0 r0 x :=
  have h : rndAt Try.prog T 50 [] la a0 c0 k0 r0 x = rndV Try.prog T 50 [] la a0 c0 (ltv (O0 (w1 r0 big)) c0) (kD0 (w0 big)) r0 x := rndV_eq (ann := a0) kD0_eq (lt0_eq r0) x
  h.trans ((rnd0 (w0 big) (w1 r0 big) r0 x).trans (by rw [w1_eq]; rfl))
theorem w0_eq : w0 = L0 := by exact lp_itr (P := Try.prog) (Δ := T) (nt := 50) (fp := []) (la := la) (R := R) (ann := a0) (body := c0) (K := k0) (B := B0) (fun r0 x => rd0 r0 x)
noncomputable def d0 (l0 : X0 → Y) (x : X) : Y := (Option.bind (F33.den (x.1, ())) fun y1 => (if (!y1.1.2.1) = true then (some ((((0, 0), ()), (false, ())), ())) else (l0 (((0, 0), ()), (((0, 1), ()), (y1.1.1, ((((List.length y1.1.1) : Nat) : Int), (0, ()))))))))
noncomputable def den (x : X) : Y := d0 (L0 big) x
theorem main_eq (l0 : X0 → Y) (x : X) : evFV Try.prog T 50 la c [.cell 2 26, .tmp 3] ps rs (ltv (O l0) c) x = d0 l0 x := by kernel_rfl
theorem ok {J : World → Prop} {G : Nat} : Con Try.prog J G 12 ps rs den := by
  have hT : TblOk Try.prog J G T := (tbl_cons (by intro e he; simp only [List.mem_cons, List.not_mem_nil, or_false] at he; subst he; exact F17.ok) (tbl_cons (by intro e he; simp only [List.mem_cons, List.not_mem_nil, or_false] at he; subst he; exact F33.ok) (tbl_cons (by intro e he; simp only [List.mem_cons, List.not_mem_nil, or_false] at he; subst he; exact F34.ok) tbl_nil)))
  exact Con.of_eq (fn_ok (fn := Try.f12) (c := c) (nt := 50) (res := [.cell 2 26, .tmp 3]) (ps := ps) (rs := rs) follows hT (by kernel_rfl) (by kernel_rfl) (by kernel_rfl) (by kernel_rfl) (by kernel_rfl) (by kernel_rfl) la) (fun x => (evFV_eq lt_eq x).trans ((main_eq (w0 big) x).trans (by rw [w0_eq]; rfl)))
end F12
/-! g03413/laws.FnMoved -/
namespace F3
abbrev ps : List PM := [.c (.dat (.sl (.int .u8)))]
abbrev rs : List PM := [.c (.dat .bool)]
abbrev X : Type := ((List Int) × Unit)
abbrev R : Type := (Bool × Unit) × Unit
abbrev Y : Type := Option R
noncomputable def T : Tbl := tbl [(5, [⟨F5.ps, F5.rs, F5.den⟩]), (6, [⟨F6.ps, F6.rs, F6.den⟩]), (7, [⟨F7.ps, F7.rs, F7.den⟩]), (8, [⟨F8.ps, F8.rs, F8.den⟩]), (9, [⟨F9.ps, F9.rs, F9.den⟩]), (10, [⟨F10.ps, F10.rs, F10.den⟩]), (11, [⟨F11.ps, F11.rs, F11.den⟩]), (12, [⟨F12.ps, F12.rs, F12.den⟩])]
noncomputable def c : Code := codeOf Try.f3
noncomputable def la : Nat → Option LAnn := fun k => lookL [] k
noncomputable def fin : Exit → St → Y := retK (finish Try.prog ps rs [.tmp 2])
noncomputable def O : Ora R := ora []
theorem lt_eq : ltOf Try.prog T 120 [] la c fin = ltv (O) c := by kernel_rfl
noncomputable def d0 (x : X) : Y := (Option.bind (F5.den (x.1, ())) fun y1 => (if y1.1.1 = true then (some ((true, ()), ())) else (Option.bind (F6.den (x.1, ())) fun y2 => (Option.bind (F7.den (y2.1.1, ((y2.1.2.1.1, ()), ((y2.1.2.2.1.1, ()), ((y2.1.2.2.2.1.1, ()), ()))))) fun y3 => (Option.bind (F8.den (y2.1.1, ((y2.1.2.1.1, ()), ((y2.1.2.2.1.1, ()), ((y2.1.2.2.2.1.1, ()), ()))))) fun y4 => (if (!(y3.1.2.1 == y4.1.2.1)) = true then (some ((false, ()), ())) else (if (!y3.1.2.1) = true then (some (((((((List.length y3.1.1) : Nat) : Int) : Int) == 0), ()), ())) else (Option.bind (F9.den (x.1, (1, ()))) fun y5 => (if (decide (0 ≤ (0 : Int)) && decide (0 < ((List.length y5.1.1 : Nat) : Int))) = true then (Option.bind (F10.den (y2.1.1, (((gt (.pair (.int .i64) (.int .i64)) y5.1.1 (Int.toNat 0)), ()), ()))) fun y6 => (if (decide (0 ≤ (0 : Int)) && decide (0 < ((List.length y5.1.1 : Nat) : Int))) = true then (Option.bind (F11.den (((gt (.pair (.int .i64) (.int .i64)) y5.1.1 (Int.toNat 0)), ()), ((y2.1.2.1.1, ()), ()))) fun y7 => (Option.bind (F10.den (y3.1.1, ((y7.1.1.1, ()), ()))) fun y8 => (Option.bind (F12.den (y2.1.1, ())) fun y9 => (Option.bind (F12.den (y3.1.1, ())) fun y10 => (if y9.1.2.1 = true then (if y10.1.2.1 = true then (if (!(((y9.1.1.1.1 : Int) == y10.1.1.1.1) && (((y9.1.1.1.2 : Int) == y10.1.1.1.2) && true))) = true then (some ((false, ()), ())) else (if (!y6.1.2.1) = false then (if (!y8.1.2.1) = false then (if (decide (0 ≤ (0 : Int)) && decide (0 < ((List.length y6.1.1 : Nat) : Int))) = true then (Option.bind (F11.den (((gt (.pair (.int .i64) (.int .i64)) y6.1.1 (Int.toNat 0)), ()), ((y2.1.2.2.1.1, ()), ()))) fun y11 => (if (decide (0 ≤ (0 : Int)) && decide (0 < ((List.length y8.1.1 : Nat) : Int))) = true then (if (((y11.1.1.1.1 : Int) == (gt (.pair (.int .i64) (.int .i64)) y8.1.1 (Int.toNat 0)).1) && (((y11.1.1.1.2 : Int) == (gt (.pair (.int .i64) (.int .i64)) y8.1.1 (Int.toNat 0)).2) && true)) = true then (if (decide (0 ≤ (1 : Int)) && decide (1 < ((List.length y6.1.1 : Nat) : Int))) = true then (Option.bind (F11.den (((gt (.pair (.int .i64) (.int .i64)) y6.1.1 (Int.toNat 1)), ()), ((y2.1.2.2.2.1.1, ()), ()))) fun y12 => (if (decide (0 ≤ (1 : Int)) && decide (1 < ((List.length y8.1.1 : Nat) : Int))) = true then (some (((((y12.1.1.1.1 : Int) == (gt (.pair (.int .i64) (.int .i64)) y8.1.1 (Int.toNat 1)).1) && (((y12.1.1.1.2 : Int) == (gt (.pair (.int .i64) (.int .i64)) y8.1.1 (Int.toNat 1)).2) && true)), ()), ())) else none)) else none) else (some ((false, ()), ()))) else none)) else none) else (some ((true, ()), ()))) else (some ((true, ()), ())))) else (if (!y6.1.2.1) = false then (if (!y8.1.2.1) = false then (if (decide (0 ≤ (0 : Int)) && decide (0 < ((List.length y6.1.1 : Nat) : Int))) = true then (Option.bind (F11.den (((gt (.pair (.int .i64) (.int .i64)) y6.1.1 (Int.toNat 0)), ()), ((y2.1.2.2.1.1, ()), ()))) fun y13 => (if (decide (0 ≤ (0 : Int)) && decide (0 < ((List.length y8.1.1 : Nat) : Int))) = true then (if (((y13.1.1.1.1 : Int) == (gt (.pair (.int .i64) (.int .i64)) y8.1.1 (Int.toNat 0)).1) && (((y13.1.1.1.2 : Int) == (gt (.pair (.int .i64) (.int .i64)) y8.1.1 (Int.toNat 0)).2) && true)) = true then (if (decide (0 ≤ (1 : Int)) && decide (1 < ((List.length y6.1.1 : Nat) : Int))) = true then (Option.bind (F11.den (((gt (.pair (.int .i64) (.int .i64)) y6.1.1 (Int.toNat 1)), ()), ((y2.1.2.2.2.1.1, ()), ()))) fun y14 => (if (decide (0 ≤ (1 : Int)) && decide (1 < ((List.length y8.1.1 : Nat) : Int))) = true then (some (((((y14.1.1.1.1 : Int) == (gt (.pair (.int .i64) (.int .i64)) y8.1.1 (Int.toNat 1)).1) && (((y14.1.1.1.2 : Int) == (gt (.pair (.int .i64) (.int .i64)) y8.1.1 (Int.toNat 1)).2) && true)), ()), ())) else none)) else none) else (some ((false, ()), ()))) else none)) else none) else (some ((true, ()), ()))) else (some ((true, ()), ())))) else (if (!y6.1.2.1) = false then (if (!y8.1.2.1) = false then (if (decide (0 ≤ (0 : Int)) && decide (0 < ((List.length y6.1.1 : Nat) : Int))) = true then (Option.bind (F11.den (((gt (.pair (.int .i64) (.int .i64)) y6.1.1 (Int.toNat 0)), ()), ((y2.1.2.2.1.1, ()), ()))) fun y15 => (if (decide (0 ≤ (0 : Int)) && decide (0 < ((List.length y8.1.1 : Nat) : Int))) = true then (if (((y15.1.1.1.1 : Int) == (gt (.pair (.int .i64) (.int .i64)) y8.1.1 (Int.toNat 0)).1) && (((y15.1.1.1.2 : Int) == (gt (.pair (.int .i64) (.int .i64)) y8.1.1 (Int.toNat 0)).2) && true)) = true then (if (decide (0 ≤ (1 : Int)) && decide (1 < ((List.length y6.1.1 : Nat) : Int))) = true then (Option.bind (F11.den (((gt (.pair (.int .i64) (.int .i64)) y6.1.1 (Int.toNat 1)), ()), ((y2.1.2.2.2.1.1, ()), ()))) fun y16 => (if (decide (0 ≤ (1 : Int)) && decide (1 < ((List.length y8.1.1 : Nat) : Int))) = true then (some (((((y16.1.1.1.1 : Int) == (gt (.pair (.int .i64) (.int .i64)) y8.1.1 (Int.toNat 1)).1) && (((y16.1.1.1.2 : Int) == (gt (.pair (.int .i64) (.int .i64)) y8.1.1 (Int.toNat 1)).2) && true)), ()), ())) else none)) else none) else (some ((false, ()), ()))) else none)) else none) else (some ((true, ()), ()))) else (some ((true, ()), ())))))))) else none)) else none)))))))))
noncomputable def den (x : X) : Y := d0 x
theorem main_eq (x : X) : evFV Try.prog T 120 la c [.tmp 2] ps rs (ltv (O) c) x = d0 x := by kernel_rfl
theorem ok {J : World → Prop} {G : Nat} : Con Try.prog J G 3 ps rs den := by
  have hT : TblOk Try.prog J G T := (tbl_cons (by intro e he; simp only [List.mem_cons, List.not_mem_nil, or_false] at he; subst he; exact F5.ok) (tbl_cons (by intro e he; simp only [List.mem_cons, List.not_mem_nil, or_false] at he; subst he; exact F6.ok) (tbl_cons (by intro e he; simp only [List.mem_cons, List.not_mem_nil, or_false] at he; subst he; exact F7.ok) (tbl_cons (by intro e he; simp only [List.mem_cons, List.not_mem_nil, or_false] at he; subst he; exact F8.ok) (tbl_cons (by intro e he; simp only [List.mem_cons, List.not_mem_nil, or_false] at he; subst he; exact F9.ok) (tbl_cons (by intro e he; simp only [List.mem_cons, List.not_mem_nil, or_false] at he; subst he; exact F10.ok) (tbl_cons (by intro e he; simp only [List.mem_cons, List.not_mem_nil, or_false] at he; subst he; exact F11.ok) (tbl_cons (by intro e he; simp only [List.mem_cons, List.not_mem_nil, or_false] at he; subst he; exact F12.ok) tbl_nil))))))))
  exact Con.of_eq (fn_ok (fn := Try.f3) (c := c) (nt := 120) (res := [.tmp 2]) (ps := ps) (rs := rs) follows hT (by kernel_rfl) (by kernel_rfl) (by kernel_rfl) (by kernel_rfl) (by kernel_rfl) (by kernel_rfl) la) (fun x => (evFV_eq lt_eq x).trans (main_eq x))
end F3
/-! g03413/spec.DrawCutTrack -/
namespace F13
abbrev ps : List PM := [.c (.dat (.sl (.int .u8)))]
abbrev rs : List PM := [.c (.own true (.pair (.pair (.int .i64) (.int .i64)) (.pair (.pair (.int .i64) (.int .i64)) (.pair (.int .i64) (.int .i64))))), .agg [.dat (.pair (.int .i64) (.int .i64))], .agg [.dat (.pair (.int .i64) (.int .i64))]]
abbrev X : Type := ((List Int) × Unit)
abbrev R : Type := ((List ((Int × Int) × ((Int × Int) × (Int × Int)))) × (((Int × Int) × Unit) × (((Int × Int) × Unit) × Unit))) × Unit
abbrev Y : Type := Option R
noncomputable def T : Tbl := tbl [(19, [⟨F19.ps, F19.rs, F19.den⟩]), (20, [⟨F20.ps, F20.rs, F20.den⟩]), (22, [⟨F22.ps, F22.rs, F22.den⟩]), (23, [⟨F23.ps, F23.rs, F23.den⟩])]
noncomputable def c : Code := codeOf Try.f13
noncomputable def la : Nat → Option LAnn := fun k => lookL [] k
noncomputable def fin : Exit → St → Y := retK (finish Try.prog ps rs [.tmp 2, .cell 3 26, .cell 4 26])
noncomputable def O : Ora R := ora []
theorem lt_eq : ltOf Try.prog T 22 [] la c fin = ltv (O) c := by kernel_rfl
noncomputable def d0 (x : X) : Y := (Option.bind (F19.den (x.1, ())) fun y1 => (Option.bind (F20.den ((y1.1.1.1, ()), ())) fun y2 => (Option.bind (F23.den ((y2.2.1.1, ()), (12, ()))) fun y3 => (Option.bind (F22.den (y3.1.1, (3, ()))) fun y4 => (Option.bind (F23.den ((y3.2.1.1, ()), (6, ()))) fun y5 => (Option.bind (F22.den ((IntKind.wrap .i64 (y3.1.1 + y5.1.1)), (3, ()))) fun y6 => (some ((y2.1.1, ((y4.1.1.1, ()), ((y6.1.1.1, ()), ()))), ()))))))))
noncomputable def den (x : X) : Y := d0 x
theorem main_eq (x : X) : evFV Try.prog T 22 la c [.tmp 2, .cell 3 26, .cell 4 26] ps rs (ltv (O) c) x = d0 x := by kernel_rfl
theorem ok {J : World → Prop} {G : Nat} : Con Try.prog J G 13 ps rs den := by
  have hT : TblOk Try.prog J G T := (tbl_cons (by intro e he; simp only [List.mem_cons, List.not_mem_nil, or_false] at he; subst he; exact F19.ok) (tbl_cons (by intro e he; simp only [List.mem_cons, List.not_mem_nil, or_false] at he; subst he; exact F20.ok) (tbl_cons (by intro e he; simp only [List.mem_cons, List.not_mem_nil, or_false] at he; subst he; exact F22.ok) (tbl_cons (by intro e he; simp only [List.mem_cons, List.not_mem_nil, or_false] at he; subst he; exact F23.ok) tbl_nil))))
  exact Con.of_eq (fn_ok (fn := Try.f13) (c := c) (nt := 22) (res := [.tmp 2, .cell 3 26, .cell 4 26]) (ps := ps) (rs := rs) follows hT (by kernel_rfl) (by kernel_rfl) (by kernel_rfl) (by kernel_rfl) (by kernel_rfl) (by kernel_rfl) la) (fun x => (evFV_eq lt_eq x).trans (main_eq x))
end F13
/-! g03413/impl.CutTrack -/
namespace F14
abbrev ps : List PM := [.c (.dat (.sl (.pair (.pair (.int .i64) (.int .i64)) (.pair (.pair (.int .i64) (.int .i64)) (.pair (.int .i64) (.int .i64)))))), .agg [.dat (.pair (.int .i64) (.int .i64))], .agg [.dat (.pair (.int .i64) (.int .i64))]]
abbrev rs : List PM := [.c (.own true (.pair (.pair (.int .i64) (.int .i64)) (.pair (.pair (.int .i64) (.int .i64)) (.pair (.int .i64) (.int .i64))))), .c (.dat .bool)]
abbrev X : Type := ((List ((Int × Int) × ((Int × Int) × (Int × Int)))) × (((Int × Int) × Unit) × (((Int × Int) × Unit) × Unit)))
abbrev R : Type := ((List ((Int × Int) × ((Int × Int) × (Int × Int)))) × (Bool × Unit)) × Unit
abbrev Y : Type := Option R
noncomputable def T : Tbl := tbl [(10, [⟨F10.ps, F10.rs, F10.den⟩]), (17, [⟨F17.ps, F17.rs, F17.den⟩]), (24, [⟨F24.ps, F24.rs, F24.den⟩])]
noncomputable def c : Code := codeOf Try.f14
abbrev X0 : Type := (((Int × Int) × Unit) × (((Int × Int) × Unit) × ((List (Int × Int)) × ((List ((Int × Int) × ((Int × Int) × (Int × Int)))) × ((List ((Int × Int) × ((Int × Int) × (Int × Int)))) × (Int × (Int × Unit)))))))
noncomputable def a0 : LAnn := ⟨[4, 5, 10, 12, 48, 49, 50], [.ptr [.dat (.pair (.int .i64) (.int .i64))], .ptr [.dat (.pair (.int .i64) (.int .i64))], .c (.dat (.sl (.pair (.int .i64) (.int .i64)))), .c (.own true (.pair (.pair (.int .i64) (.int .i64)) (.pair (.pair (.int .i64) (.int .i64)) (.pair (.int .i64) (.int .i64))))), .c (.dat (.sl (.pair (.pair (.int .i64) (.int .i64)) (.pair (.pair (.int .i64) (.int .i64)) (.pair (.int .i64) (.int .i64)))))), .c (.dat (.int .i64)), .c (.dat (.int .i64))]⟩
noncomputable def la : Nat → Option LAnn := fun k => lookL [(7, a0)] k
noncomputable def fin : Exit → St → Y := retK (finish Try.prog ps rs [.tmp 6, .tmp 7])
noncomputable def O (l0 : X0 → Y) : Ora R := ora [(7, ⟨a0, l0⟩)]
noncomputable def c0 : Code := atP c [1, 1, 1, 1, 1, 0, 1, 0, 0]
noncomputable def k0 : Exit → St → Y := kAt Try.prog T 89 [] la c [1, 1, 1, 1, 1, 0, 1, 0] fin
noncomputable def kD0 (l0 : X0 → Y) : Exit → St → Y := kAtD Try.prog T 89 [] la c [1, 1, 1, 1, 1, 0, 1, 0] (ltv (O l0) c) fin
noncomputable def w0 : Nat → X0 → Y := lpAt Try.prog T 89 [] la a0 c0 k0
noncomputable def O0 : Ora R := ora []
theorem lt_eq : ltOf Try.prog T 89 [] la c fin = ltv (O (w0 big)) c := by kernel_rfl
theorem lt0_eq (r0 : X0 → Y) : ltOf Try.prog T 89 [] la c0 (contOf a0 k0 r0) = ltv (O0) c0 := by kernel_rfl
theorem kD0_eq : k0 = kD0 (w0 big) := contV_eq rfl lt_eq
noncomputable def b0 (r0 : X0 → Y) (x : X0) : Y := (if (decide ((x.2.2.2.2.2.2.1 : Int) < x.2.2.2.2.2.1)) = true then (if (decide (0 ≤ (x.2.2.2.2.2.2.1 : Int)) && decide (x.2.2.2.2.2.2.1 < ((List.length x.2.2.2.2.1 : Nat) : Int))) = true then (Option.bind (F17.den (((gt (.pair (.pair (.int .i64) (.int .i64)) (.pair (.pair (.int .i64) (.int .i64)) (.pair (.int .i64) (.int .i64)))) x.2.2.2.2.1 (Int.toNat x.2.2.2.2.2.2.1)).1, ()), ((x.1.1, ()), ()))) fun y4 => (if (decide ((y4.1.1 : Int) > 0)) = true then (Option.bind (F17.den (((gt (.pair (.pair (.int .i64) (.int .i64)) (.pair (.pair (.int .i64) (.int .i64)) (.pair (.int .i64) (.int .i64)))) x.2.2.2.2.1 (Int.toNat x.2.2.2.2.2.2.1)).1, ()), ((x.2.1.1, ()), ()))) fun y5 => (if (decide ((y5.1.1 : Int) < 0)) = true then (if (decide (List.length x.2.2.2.1 + List.length [(gt (.pair (.pair (.int .i64) (.int .i64)) (.pair (.pair (.int .i64) (.int .i64)) (.pair (.int .i64) (.int .i64)))) x.2.2.2.2.1 (Int.toNat x.2.2.2.2.2.2.1))] ≤ cap36)) = true then (r0 ((x.1.1, ()), ((x.2.1.1, ()), (x.2.2.1, ((x.2.2.2.1 ++ [(gt (.pair (.pair (.int .i64) (.int .i64)) (.pair (.pair (.int .i64) (.int .i64)) (.pair (.int .i64) (.int .i64)))) x.2.2.2.2.1 (Int.toNat x.2.2.2.2.2.2.1))]), (x.2.2.2.2.1, (x.2.2.2.2.2.1, ((IntKind.wrap .i64 (x.2.2.2.2.2.2.1 + 1)), ())))))))) else none) else (r0 ((x.1.1, ()), ((x.2.1.1, ()), (x.2.2.1, (x.2.2.2.1, (x.2.2.2.2.1, (x.2.2.2.2.2.1, ((IntKind.wrap .i64 (x.2.2.2.2.2.2.1 + 1)), ())))))))))) else (r0 ((x.1.1, ()), ((x.2.1.1, ()), (x.2.2.1, (x.2.2.2.1, (x.2.2.2.2.1, (x.2.2.2.2.2.1, ((IntKind.wrap .i64 (x.2.2.2.2.2.2.1 + 1)), ())))))))))) else none) else (if (!(((x.2.1.1.1 : Int) == x.1.1.1) && (((x.2.1.1.2 : Int) == x.1.1.2) && true))) = true then (if (decide (0 ≤ (0 : Int)) && decide (0 < ((List.length x.2.2.1 : Nat) : Int))) = true then (if (decide (0 ≤ (1 : Int)) && decide (1 < ((List.length x.2.2.1 : Nat) : Int))) = true then (if (decide (List.length x.2.2.2.1 + List.length [(x.2.1.1, ((gt (.pair (.int .i64) (.int .i64)) x.2.2.1 (Int.toNat 0)), (gt (.pair (.int .i64) (.int .i64)) x.2.2.1 (Int.toNat 1))))] ≤ cap36)) = true then (Option.bind (F24.den ((x.2.2.2.1 ++ [(x.2.1.1, ((gt (.pair (.int .i64) (.int .i64)) x.2.2.1 (Int.toNat 0)), (gt (.pair (.int .i64) (.int .i64)) x.2.2.1 (Int.toNat 1))))]), ())) fun y6 => (if (!y6.1.1) = true then (some ((([] : List ((Int × Int) × ((Int × Int) × (Int × Int)))), (false, ())), ())) else (some (((x.2.2.2.1 ++ [(x.2.1.1, ((gt (.pair (.int .i64) (.int .i64)) x.2.2.1 (Int.toNat 0)), (gt (.pair (.int .i64) (.int .i64)) x.2.2.1 (Int.toNat 1))))]), (true, ())), ())))) else none) else none) else none) else (Option.bind (F24.den (x.2.2.2.1, ())) fun y7 => (if (!y7.1.1) = true then (some ((([] : List ((Int × Int) × ((Int × Int) × (Int × Int)))), (false, ())), ())) else (some ((x.2.2.2.1, (true, ())), ()))))))
noncomputable def B0 (r0 : X0 → Y) (x : X0) : Y := b0 r0 x
noncomputable def L0 : Nat → X0 → Y := itr B0
theorem rnd0 (l0 : X0 → Y) (r0 : X0 → Y) (x : X0) : rndV Try.prog T 89 [] la a0 c0 (ltv (O0) c0) (kD0 l0) r0 x = b0 r0 x := by kernel_rfl
theorem rd0 (r0 : X0 → Y) (x : X0) : rndAt Try.prog T 89 [] la a0 c0 k0 r0 x = B0 r0 x :=
  have h : rndAt Try.prog T 89 [] la a0 c0 k0 r0 x = rndV Try.prog T 89 [] la a0 c0 (ltv (O0) c0) (kD0 (w0 big)) r0 x := rndV_eq (ann := a0) kD0_eq (lt0_eq r0) x
  h.trans (rnd0 (w0 big) r0 x)
theorem w0_eq : w0 = L0 := by exact lp_itr (P := Try.prog) (Δ := T) (nt := 89) (fp := []) (la := la) (R := R) (ann := a0) (body := c0) (K := k0) (B := B0) (fun r0 x => rd0 r0 x)
noncomputable def d0 (l0 : X0 → Y) (x : X) : Y := (Option.bind (F10.den (x.1, ((x.2.1.1, ()), ()))) fun y1 => (Option.bind (F10.den (x.1, ((x.2.2.1.1, ()), ()))) fun y2 => (if (!y1.1.2.1) = false then (if (!y2.1.2.1) = false then (Option.bind (F17.den ((x.2.2.1.1, ()), ((x.2.1.1, ()), ()))) fun y3 => (if (decide ((y3.1.1 : Int) < 0)) = true then (some ((([] : List ((Int × Int) × ((Int × Int) × (Int × Int)))), (false, ())), ())) else (if (decide (0 ≤ (0 : Int)) && decide (0 < ((List.length y1.1.1 : Nat) : Int))) = true then (if (decide (0 ≤ (1 : Int)) && decide (1 < ((List.length y1.1.1 : Nat) : Int))) = true then (l0 ((x.2.1.1, ()), ((x.2.2.1.1, ()), (y2.1.1, ([(x.2.1.1, ((gt (.pair (.int .i64) (.int .i64)) y1.1.1 (Int.toNat 0)), (gt (.pair (.int .i64) (.int .i64)) y1.1.1 (Int.toNat 1))))], (x.1, ((((List.length x.1) : Nat) : Int), (0, ())))))))) else none) else none))) else (some ((([] : List ((Int × Int) × ((Int × Int) × (Int × Int)))), (false, ())), ()))) else (some ((([] : List ((Int × Int) × ((Int × Int) × (Int × Int)))), (false, ())), ())))))
noncomputable def den (x : X) : Y := d0 (L0 big) x
theorem main_eq (l0 : X0 → Y) (x : X) : evFV Try.prog T 89 la c [.tmp 6, .tmp 7] ps rs (ltv (O l0) c) x = d0 l0 x := by kernel_rfl
theorem ok {J : World → Prop} {G : Nat} : Con Try.prog J G 14 ps rs den := by
  have hT : TblOk Try.prog J G T := (tbl_cons (by intro e he; simp only [List.mem_cons, List.not_mem_nil, or_false] at he; subst he; exact F10.ok) (tbl_cons (by intro e he; simp only [List.mem_cons, List.not_mem_nil, or_false] at he; subst he; exact F17.ok) (tbl_cons (by intro e he; simp only [List.mem_cons, List.not_mem_nil, or_false] at he; subst he; exact F24.ok) tbl_nil)))
  exact Con.of_eq (fn_ok (fn := Try.f14) (c := c) (nt := 89) (res := [.tmp 6, .tmp 7]) (ps := ps) (rs := rs) follows hT (by kernel_rfl) (by kernel_rfl) (by kernel_rfl) (by kernel_rfl) (by kernel_rfl) (by kernel_rfl) la) (fun x => (evFV_eq lt_eq x).trans ((main_eq (w0 big) x).trans (by rw [w0_eq]; rfl)))
end F14
/-! g03413/spec.MultiplyRatios -/
namespace F58
abbrev ps : List PM := [.agg [.dat (.pair (.int .i64) (.int .i64))], .agg [.dat (.pair (.int .i64) (.int .i64))]]
abbrev rs : List PM := [.agg [.dat (.pair (.int .i64) (.int .i64))]]
abbrev X : Type := (((Int × Int) × Unit) × (((Int × Int) × Unit) × Unit))
abbrev R : Type := (((Int × Int) × Unit) × Unit) × Unit
abbrev Y : Type := Option R
noncomputable def T : Tbl := tbl [(31, [⟨F31.ps, F31.rs, F31.den⟩]), (32, [⟨F32.ps, F32.rs, F32.den⟩])]
noncomputable def c : Code := codeOf Try.f58
noncomputable def la : Nat → Option LAnn := fun k => lookL [] k
noncomputable def fin : Exit → St → Y := retK (finish Try.prog ps rs [.cell 4 26])
noncomputable def O : Ora R := ora []
theorem lt_eq : ltOf Try.prog T 25 [] la c fin = ltv (O) c := by kernel_rfl
noncomputable def d0 (x : X) : Y := (Option.bind (F31.den ((x.1.1, ()), ())) fun y1 => (if (!y1.1.1) = false then (Option.bind (F31.den ((x.2.1.1, ()), ())) fun y2 => (if (!y2.1.1) = true then (some ((((0, 0), ()), ()), ())) else (Option.bind (F32.den ((IntKind.wrap .i64 (x.1.1.1 * x.2.1.1.1)), ((IntKind.wrap .i64 (x.1.1.2 * x.2.1.1.2)), ()))) fun y3 => (some (((y3.1.1.1, ()), ()), ()))))) else (some ((((0, 0), ()), ()), ()))))
noncomputable def den (x : X) : Y := d0 x
theorem main_eq (x : X) : evFV Try.prog T 25 la c [.cell 4 26] ps rs (ltv (O) c) x = d0 x := by kernel_rfl
theorem ok {J : World → Prop} {G : Nat} : Con Try.prog J G 58 ps rs den := by
  have hT : TblOk Try.prog J G T := (tbl_cons (by intro e he; simp only [List.mem_cons, List.not_mem_nil, or_false] at he; subst he; exact F31.ok) (tbl_cons (by intro e he; simp only [List.mem_cons, List.not_mem_nil, or_false] at he; subst he; exact F32.ok) tbl_nil))
  exact Con.of_eq (fn_ok (fn := Try.f58) (c := c) (nt := 25) (res := [.cell 4 26]) (ps := ps) (rs := rs) follows hT (by kernel_rfl) (by kernel_rfl) (by kernel_rfl) (by kernel_rfl) (by kernel_rfl) (by kernel_rfl) la) (fun x => (evFV_eq lt_eq x).trans (main_eq x))
end F58
/-! g03413/spec.DivideRatios -/
namespace F60
abbrev ps : List PM := [.agg [.dat (.pair (.int .i64) (.int .i64))], .agg [.dat (.pair (.int .i64) (.int .i64))]]
abbrev rs : List PM := [.agg [.dat (.pair (.int .i64) (.int .i64))]]
abbrev X : Type := (((Int × Int) × Unit) × (((Int × Int) × Unit) × Unit))
abbrev R : Type := (((Int × Int) × Unit) × Unit) × Unit
abbrev Y : Type := Option R
noncomputable def T : Tbl := tbl [(31, [⟨F31.ps, F31.rs, F31.den⟩]), (32, [⟨F32.ps, F32.rs, F32.den⟩])]
noncomputable def c : Code := codeOf Try.f60
noncomputable def la : Nat → Option LAnn := fun k => lookL [] k
noncomputable def fin : Exit → St → Y := retK (finish Try.prog ps rs [.cell 4 26])
noncomputable def O : Ora R := ora []
theorem lt_eq : ltOf Try.prog T 30 [] la c fin = ltv (O) c := by kernel_rfl
noncomputable def d0 (x : X) : Y := (Option.bind (F31.den ((x.1.1, ()), ())) fun y1 => (if (!y1.1.1) = false then (Option.bind (F31.den ((x.2.1.1, ()), ())) fun y2 => (if (!y2.1.1) = false then (if ((x.2.1.1.1 : Int) == 0) = true then (some ((((0, 0), ()), ()), ())) else (Option.bind (F32.den ((IntKind.wrap .i64 (x.1.1.1 * x.2.1.1.2)), ((IntKind.wrap .i64 (x.1.1.2 * x.2.1.1.1)), ()))) fun y3 => (some (((y3.1.1.1, ()), ()), ())))) else (some ((((0, 0), ()), ()), ())))) else (some ((((0, 0), ()), ()), ()))))
noncomputable def den (x : X) : Y := d0 x
theorem main_eq (x : X) : evFV Try.prog T 30 la c [.cell 4 26] ps rs (ltv (O) c) x = d0 x := by kernel_rfl
theorem ok {J : World → Prop} {G : Nat} : Con Try.prog J G 60 ps rs den := by
  have hT : TblOk Try.prog J G T := (tbl_cons (by intro e he; simp only [List.mem_cons, List.not_mem_nil, or_false] at he; subst he; exact F31.ok) (tbl_cons (by intro e he; simp only [List.mem_cons, List.not_mem_nil, or_false] at he; subst he; exact F32.ok) tbl_nil))
  exact Con.of_eq (fn_ok (fn := Try.f60) (c := c) (nt := 30) (res := [.cell 4 26]) (ps := ps) (rs := rs) follows hT (by kernel_rfl) (by kernel_rfl) (by kernel_rfl) (by kernel_rfl) (by kernel_rfl) (by kernel_rfl) la) (fun x => (evFV_eq lt_eq x).trans (main_eq x))
end F60
/-! g03413/spec.NegateRatio -/
namespace F61
abbrev ps : List PM := [.agg [.dat (.pair (.int .i64) (.int .i64))]]
abbrev rs : List PM := [.agg [.dat (.pair (.int .i64) (.int .i64))]]
abbrev X : Type := (((Int × Int) × Unit) × Unit)
abbrev R : Type := (((Int × Int) × Unit) × Unit) × Unit
abbrev Y : Type := Option R
noncomputable def T : Tbl := tbl [(31, [⟨F31.ps, F31.rs, F31.den⟩])]
noncomputable def c : Code := codeOf Try.f61
noncomputable def la : Nat → Option LAnn := fun k => lookL [] k
noncomputable def fin : Exit → St → Y := retK (finish Try.prog ps rs [.cell 2 26])
noncomputable def O : Ora R := ora []
theorem lt_eq : ltOf Try.prog T 13 [] la c fin = ltv (O) c := by kernel_rfl
noncomputable def d0 (x : X) : Y := (Option.bind (F31.den ((x.1.1, ()), ())) fun y1 => (if (!y1.1.1) = true then (some ((((0, 0), ()), ()), ())) else (some (((((IntKind.wrap .i64 (0 - x.1.1.1)), x.1.1.2), ()), ()), ()))))
noncomputable def den (x : X) : Y := d0 x
theorem main_eq (x : X) : evFV Try.prog T 13 la c [.cell 2 26] ps rs (ltv (O) c) x = d0 x := by kernel_rfl
theorem ok {J : World → Prop} {G : Nat} : Con Try.prog J G 61 ps rs den := by
  have hT : TblOk Try.prog J G T := (tbl_cons (by intro e he; simp only [List.mem_cons, List.not_mem_nil, or_false] at he; subst he; exact F31.ok) tbl_nil)
  exact Con.of_eq (fn_ok (fn := Try.f61) (c := c) (nt := 13) (res := [.cell 2 26]) (ps := ps) (rs := rs) follows hT (by kernel_rfl) (by kernel_rfl) (by kernel_rfl) (by kernel_rfl) (by kernel_rfl) (by kernel_rfl) la) (fun x => (evFV_eq lt_eq x).trans (main_eq x))
end F61
/-! g03413/spec.l8Through -/
namespace F57
abbrev ps : List PM := [.agg [.dat (.pair (.int .i64) (.int .i64))], .agg [.dat (.pair (.int .i64) (.int .i64))], .agg [.dat (.pair (.int .i64) (.int .i64))], .agg [.dat (.pair (.int .i64) (.int .i64))]]
abbrev rs : List PM := [.agg [.dat (.pair (.pair (.int .i64) (.int .i64)) (.pair (.int .i64) (.int .i64)))]]
abbrev X : Type := (((Int × Int) × Unit) × (((Int × Int) × Unit) × (((Int × Int) × Unit) × (((Int × Int) × Unit) × Unit))))
abbrev R : Type := ((((Int × Int) × (Int × Int)) × Unit) × Unit) × Unit
abbrev Y : Type := Option R
noncomputable def T : Tbl := tbl [(11, [⟨F11.ps, F11.rs, F11.den⟩]), (58, [⟨F58.ps, F58.rs, F58.den⟩]), (60, [⟨F60.ps, F60.rs, F60.den⟩]), (61, [⟨F61.ps, F61.rs, F61.den⟩])]
noncomputable def c : Code := codeOf Try.f57
noncomputable def la : Nat → Option LAnn := fun k => lookL [] k
noncomputable def fin : Exit → St → Y := retK (finish Try.prog ps rs [.cell 8 79])
noncomputable def O : Ora R := ora []
theorem lt_eq : ltOf Try.prog T 27 [] la c fin = ltv (O) c := by kernel_rfl
noncomputable def d0 (x : X) : Y := (Option.bind (F61.den ((x.2.1.1, ()), ())) fun y1 => (Option.bind (F11.den ((x.2.2.2.1.1, ()), ((y1.1.1.1, ()), ()))) fun y2 => (Option.bind (F61.den ((x.1.1, ()), ())) fun y3 => (Option.bind (F11.den ((x.2.2.1.1, ()), ((y3.1.1.1, ()), ()))) fun y4 => (Option.bind (F60.den ((y2.1.1.1, ()), ((y4.1.1.1, ()), ()))) fun y5 => (Option.bind (F58.den ((y5.1.1.1, ()), ((x.1.1, ()), ()))) fun y6 => (Option.bind (F61.den ((y6.1.1.1, ()), ())) fun y7 => (Option.bind (F11.den ((x.2.1.1, ()), ((y7.1.1.1, ()), ()))) fun y8 => (some ((((y5.1.1.1, y8.1.1.1), ()), ()), ()))))))))))
noncomputable def den (x : X) : Y := d0 x
theorem main_eq (x : X) : evFV Try.prog T 27 la c [.cell 8 79] ps rs (ltv (O) c) x = d0 x := by kernel_rfl
theorem ok {J : World → Prop} {G : Nat} : Con Try.prog J G 57 ps rs den := by
  have hT : TblOk Try.prog J G T := (tbl_cons (by intro e he; simp only [List.mem_cons, List.not_mem_nil, or_false] at he; subst he; exact F11.ok) (tbl_cons (by intro e he; simp only [List.mem_cons, List.not_mem_nil, or_false] at he; subst he; exact F58.ok) (tbl_cons (by intro e he; simp only [List.mem_cons, List.not_mem_nil, or_false] at he; subst he; exact F60.ok) (tbl_cons (by intro e he; simp only [List.mem_cons, List.not_mem_nil, or_false] at he; subst he; exact F61.ok) tbl_nil))))
  exact Con.of_eq (fn_ok (fn := Try.f57) (c := c) (nt := 27) (res := [.cell 8 79]) (ps := ps) (rs := rs) follows hT (by kernel_rfl) (by kernel_rfl) (by kernel_rfl) (by kernel_rfl) (by kernel_rfl) (by kernel_rfl) la) (fun x => (evFV_eq lt_eq x).trans (main_eq x))
end F57
/-! g03413/spec.l8Leg -/
namespace F51
abbrev ps : List PM := [.agg [.dat (.pair (.pair (.int .i64) (.int .i64)) (.pair (.pair (.int .i64) (.int .i64)) (.pair (.int .i64) (.int .i64))))], .agg [.dat (.pair (.pair (.int .i64) (.int .i64)) (.pair (.pair (.int .i64) (.int .i64)) (.pair (.int .i64) (.int .i64))))]]
abbrev rs : List PM := [.agg [.dat (.pair (.pair (.int .i64) (.int .i64)) (.pair (.int .i64) (.int .i64)))], .agg [.dat (.pair (.pair (.int .i64) (.int .i64)) (.pair (.int .i64) (.int .i64)))], .c (.dat .bool)]
abbrev X : Type := ((((Int × Int) × ((Int × Int) × (Int × Int))) × Unit) × ((((Int × Int) × ((Int × Int) × (Int × Int))) × Unit) × Unit))
abbrev R : Type := ((((Int × Int) × (Int × Int)) × Unit) × ((((Int × Int) × (Int × Int)) × Unit) × (Bool × Unit))) × Unit
abbrev Y : Type := Option R
noncomputable def T : Tbl := tbl [(31, [⟨F31.ps, F31.rs, F31.den⟩]), (57, [⟨F57.ps, F57.rs, F57.den⟩])]
noncomputable def c : Code := codeOf Try.f51
noncomputable def la : Nat → Option LAnn := fun k => lookL [] k
noncomputable def fin : Exit → St → Y := retK (finish Try.prog ps rs [.cell 4 79, .cell 5 79, .tmp 6])
noncomputable def O : Ora R := ora []
theorem lt_eq : ltOf Try.prog T 47 [] la c fin = ltv (O) c := by kernel_rfl
noncomputable def d0 (x : X) : Y := (Option.bind (F57.den ((x.1.1.1, ()), ((x.1.1.2.1, ()), ((x.2.1.1.1, ()), ((x.2.1.1.2.1, ()), ()))))) fun y1 => (Option.bind (F57.den ((x.1.1.1, ()), ((x.1.1.2.2, ()), ((x.2.1.1.1, ()), ((x.2.1.1.2.2, ()), ()))))) fun y2 => (Option.bind (F31.den ((y1.1.1.1.1, ()), ())) fun y3 => (if y3.1.1 = true then (Option.bind (F31.den ((y1.1.1.1.2, ()), ())) fun y4 => (if y4.1.1 = true then (Option.bind (F31.den ((y2.1.1.1.1, ()), ())) fun y5 => (if y5.1.1 = true then (Option.bind (F31.den ((y2.1.1.1.2, ()), ())) fun y6 => (some (((y1.1.1.1, ()), ((y2.1.1.1, ()), (y6.1.1, ()))), ()))) else (some (((y1.1.1.1, ()), ((y2.1.1.1, ()), (false, ()))), ())))) else (some (((y1.1.1.1, ()), ((y2.1.1.1, ()), (false, ()))), ())))) else (some (((y1.1.1.1, ()), ((y2.1.1.1, ()), (false, ()))), ()))))))
noncomputable def den (x : X) : Y := d0 x
theorem main_eq (x : X) : evFV Try.prog T 47 la c [.cell 4 79, .cell 5 79, .tmp 6] ps rs (ltv (O) c) x = d0 x := by kernel_rfl
theorem ok {J : World → Prop} {G : Nat} : Con Try.prog J G 51 ps rs den := by
  have hT : TblOk Try.prog J G T := (tbl_cons (by intro e he; simp only [List.mem_cons, List.not_mem_nil, or_false] at he; subst he; exact F31.ok) (tbl_cons (by intro e he; simp only [List.mem_cons, List.not_mem_nil, or_false] at he; subst he; exact F57.ok) tbl_nil))
  exact Con.of_eq (fn_ok (fn := Try.f51) (c := c) (nt := 47) (res := [.cell 4 79, .cell 5 79, .tmp 6]) (ps := ps) (rs := rs) follows hT (by kernel_rfl) (by kernel_rfl) (by kernel_rfl) (by kernel_rfl) (by kernel_rfl) (by kernel_rfl) la) (fun x => (evFV_eq lt_eq x).trans (main_eq x))
end F51
/-! g03413/spec.l8Value -/
namespace F52
abbrev ps : List PM := [.agg [.dat (.pair (.pair (.int .i64) (.int .i64)) (.pair (.int .i64) (.int .i64)))], .agg [.dat (.pair (.int .i64) (.int .i64))]]
abbrev rs : List PM := [.agg [.dat (.pair (.int .i64) (.int .i64))]]
abbrev X : Type := ((((Int × Int) × (Int × Int)) × Unit) × (((Int × Int) × Unit) × Unit))
abbrev R : Type := (((Int × Int) × Unit) × Unit) × Unit
abbrev Y : Type := Option R
noncomputable def T : Tbl := tbl [(11, [⟨F11.ps, F11.rs, F11.den⟩]), (58, [⟨F58.ps, F58.rs, F58.den⟩])]
noncomputable def c : Code := codeOf Try.f52
noncomputable def la : Nat → Option LAnn := fun k => lookL [] k
noncomputable def fin : Exit → St → Y := retK (finish Try.prog ps rs [.cell 4 26])
noncomputable def O : Ora R := ora []
theorem lt_eq : ltOf Try.prog T 12 [] la c fin = ltv (O) c := by kernel_rfl
noncomputable def d0 (x : X) : Y := (Option.bind (F58.den ((x.1.1.1, ()), ((x.2.1.1, ()), ()))) fun y1 => (Option.bind (F11.den ((y1.1.1.1, ()), ((x.1.1.2, ()), ()))) fun y2 => (some (((y2.1.1.1, ()), ()), ()))))
noncomputable def den (x : X) : Y := d0 x
theorem main_eq (x : X) : evFV Try.prog T 12 la c [.cell 4 26] ps rs (ltv (O) c) x = d0 x := by kernel_rfl
theorem ok {J : World → Prop} {G : Nat} : Con Try.prog J G 52 ps rs den := by
  have hT : TblOk Try.prog J G T := (tbl_cons (by intro e he; simp only [List.mem_cons, List.not_mem_nil, or_false] at he; subst he; exact F11.ok) (tbl_cons (by intro e he; simp only [List.mem_cons, List.not_mem_nil, or_false] at he; subst he; exact F58.ok) tbl_nil))
  exact Con.of_eq (fn_ok (fn := Try.f52) (c := c) (nt := 12) (res := [.cell 4 26]) (ps := ps) (rs := rs) follows hT (by kernel_rfl) (by kernel_rfl) (by kernel_rfl) (by kernel_rfl) (by kernel_rfl) (by kernel_rfl) la) (fun x => (evFV_eq lt_eq x).trans (main_eq x))
end F52
/-! g03413/spec.IsPoint -/
namespace F53
abbrev ps : List PM := [.c (.dat (.sl (.pair (.int .i64) (.int .i64)))), .c (.dat (.int .i64))]
abbrev rs : List PM := [.c (.dat .bool)]
abbrev X : Type := ((List (Int × Int)) × (Int × Unit))
abbrev R : Type := (Bool × Unit) × Unit
abbrev Y : Type := Option R
noncomputable def T : Tbl := tbl [(31, [⟨F31.ps, F31.rs, F31.den⟩])]
noncomputable def c : Code := codeOf Try.f53
abbrev X0 : Type := ((List (Int × Int)) × (Int × (Int × Unit)))
noncomputable def a0 : LAnn := ⟨[0, 1, 5], [.c (.dat (.sl (.pair (.int .i64) (.int .i64)))), .c (.dat (.int .i64)), .c (.dat (.int .i64))]⟩
noncomputable def la : Nat → Option LAnn := fun k => lookL [(2, a0)] k
noncomputable def fin : Exit → St → Y := retK (finish Try.prog ps rs [.tmp 4])
noncomputable def O (l0 : X0 → Y) : Ora R := ora [(2, ⟨a0, l0⟩)]
noncomputable def c0 : Code := atP c [1, 0, 1, 0, 0]
noncomputable def k0 : Exit → St → Y := kAt Try.prog T 22 [] la c [1, 0, 1, 0] fin
noncomputable def kD0 (l0 : X0 → Y) : Exit → St → Y := kAtD Try.prog T 22 [] la c [1, 0, 1, 0] (ltv (O l0) c) fin
noncomputable def w0 : Nat → X0 → Y := lpAt Try.prog T 22 [] la a0 c0 k0
noncomputable def O0 : Ora R := ora []
theorem lt_eq : ltOf Try.prog T 22 [] la c fin = ltv (O (w0 big)) c := by kernel_rfl
theorem lt0_eq (r0 : X0 → Y) : ltOf Try.prog T 22 [] la c0 (contOf a0 k0 r0) = ltv (O0) c0 := by kernel_rfl
theorem kD0_eq : k0 = kD0 (w0 big) := contV_eq rfl lt_eq
noncomputable def b0 (r0 : X0 → Y) (x : X0) : Y := (if (decide ((x.2.2.1 : Int) < (((List.length x.1) : Nat) : Int))) = true then (if (decide (0 ≤ (x.2.2.1 : Int)) && decide (x.2.2.1 < ((List.length x.1 : Nat) : Int))) = true then (Option.bind (F31.den (((gt (.pair (.int .i64) (.int .i64)) x.1 (Int.toNat x.2.2.1)), ()), ())) fun y1 => (if (!y1.1.1) = true then (some ((false, ()), ())) else (r0 (x.1, (x.2.1, ((IntKind.wrap .i64 (x.2.2.1 + 1)), ())))))) else none) else (some (((((((List.length x.1) : Nat) : Int) : Int) == x.2.1), ()), ())))
noncomputable def B0 (r0 : X0 → Y) (x : X0) : Y := b0 r0 x
noncomputable def L0 : Nat → X0 → Y := itr B0
theorem rnd0 (l0 : X0 → Y) (r0 : X0 → Y) (x : X0) : rndV Try.prog T 22 [] la a0 c0 (ltv (O0) c0) (kD0 l0) r0 x = b0 r0 x := by kernel_rfl
theorem rd0 (r0 : X0 → Y) (x : X0) : rndAt Try.prog T 22 [] la a0 c0 k0 r0 x = B0 r0 x :=
  have h : rndAt Try.prog T 22 [] la a0 c0 k0 r0 x = rndV Try.prog T 22 [] la a0 c0 (ltv (O0) c0) (kD0 (w0 big)) r0 x := rndV_eq (ann := a0) kD0_eq (lt0_eq r0) x
  h.trans (rnd0 (w0 big) r0 x)
theorem w0_eq : w0 = L0 := by exact lp_itr (P := Try.prog) (Δ := T) (nt := 22) (fp := []) (la := la) (R := R) (ann := a0) (body := c0) (K := k0) (B := B0) (fun r0 x => rd0 r0 x)
noncomputable def d0 (l0 : X0 → Y) (x : X) : Y := (l0 (x.1, (x.2.1, (0, ()))))
noncomputable def den (x : X) : Y := d0 (L0 big) x
theorem main_eq (l0 : X0 → Y) (x : X) : evFV Try.prog T 22 la c [.tmp 4] ps rs (ltv (O l0) c) x = d0 l0 x := by kernel_rfl
theorem ok {J : World → Prop} {G : Nat} : Con Try.prog J G 53 ps rs den := by
  have hT : TblOk Try.prog J G T := (tbl_cons (by intro e he; simp only [List.mem_cons, List.not_mem_nil, or_false] at he; subst he; exact F31.ok) tbl_nil)
  exact Con.of_eq (fn_ok (fn := Try.f53) (c := c) (nt := 22) (res := [.tmp 4]) (ps := ps) (rs := rs) follows hT (by kernel_rfl) (by kernel_rfl) (by kernel_rfl) (by kernel_rfl) (by kernel_rfl) (by kernel_rfl) la) (fun x => (evFV_eq lt_eq x).trans ((main_eq (w0 big) x).trans (by rw [w0_eq]; rfl)))
end F53
/-! g03413/spec.PositionAt -/
namespace F35
abbrev ps : List PM := [.c (.dat (.sl (.pair (.pair (.int .i64) (.int .i64)) (.pair (.pair (.int .i64) (.int .i64)) (.pair (.int .i64) (.int .i64)))))), .agg [.dat (.pair (.int .i64) (.int .i64))]]
abbrev rs : List PM := [.c (.own true (.pair (.int .i64) (.int .i64))), .c (.dat .bool)]
abbrev X : Type := ((List ((Int × Int) × ((Int × Int) × (Int × Int)))) × (((Int × Int) × Unit) × Unit))
abbrev R : Type := ((List (Int × Int)) × (Bool × Unit)) × Unit
abbrev Y : Type := Option R
noncomputable def T : Tbl := tbl [(26, [⟨F26.ps, F26.rs, F26.den⟩]), (31, [⟨F31.ps, F31.rs, F31.den⟩]), (36, [⟨F36.ps, F36.rs, F36.den⟩]), (51, [⟨F51.ps, F51.rs, F51.den⟩]), (52, [⟨F52.ps, F52.rs, F52.den⟩]), (53, [⟨F53.ps, F53.rs, F53.den⟩])]
noncomputable def c : Code := codeOf Try.f35
abbrev X0 : Type := ((List ((Int × Int) × ((Int × Int) × (Int × Int)))) × (((Int × Int) × Unit) × (Int × Unit)))
noncomputable def a0 : LAnn := ⟨[0, 3, 6], [.c (.dat (.sl (.pair (.pair (.int .i64) (.int .i64)) (.pair (.pair (.int .i64) (.int .i64)) (.pair (.int .i64) (.int .i64)))))), .ptr [.dat (.pair (.int .i64) (.int .i64))], .c (.dat (.int .i64))]⟩
noncomputable def la : Nat → Option LAnn := fun k => lookL [(4, a0)] k
noncomputable def fin : Exit → St → Y := retK (finish Try.prog ps rs [.tmp 4, .tmp 5])
noncomputable def O (l0 : X0 → Y) : Ora R := ora [(4, ⟨a0, l0⟩)]
noncomputable def c0 : Code := atP c [1, 1, 0, 1, 0, 0]
noncomputable def k0 : Exit → St → Y := kAt Try.prog T 96 [] la c [1, 1, 0, 1, 0] fin
noncomputable def kD0 (l0 : X0 → Y) : Exit → St → Y := kAtD Try.prog T 96 [] la c [1, 1, 0, 1, 0] (ltv (O l0) c) fin
noncomputable def w0 : Nat → X0 → Y := lpAt Try.prog T 96 [] la a0 c0 k0
noncomputable def O0 : Ora R := ora []
theorem lt_eq : ltOf Try.prog T 96 [] la c fin = ltv (O (w0 big)) c := by kernel_rfl
theorem lt0_eq (r0 : X0 → Y) : ltOf Try.prog T 96 [] la c0 (contOf a0 k0 r0) = ltv (O0) c0 := by kernel_rfl
theorem kD0_eq : k0 = kD0 (w0 big) := contV_eq rfl lt_eq
noncomputable def b0 (r0 : X0 → Y) (x : X0) : Y := (if (decide ((x.2.2.1 : Int) < (((List.length x.1) : Nat) : Int))) = true then (if (decide (0 ≤ (x.2.2.1 : Int)) && decide (x.2.2.1 < ((List.length x.1 : Nat) : Int))) = true then (if ((((gt (.pair (.pair (.int .i64) (.int .i64)) (.pair (.pair (.int .i64) (.int .i64)) (.pair (.int .i64) (.int .i64)))) x.1 (Int.toNat x.2.2.1)).1.1 : Int) == x.2.1.1.1) && ((((gt (.pair (.pair (.int .i64) (.int .i64)) (.pair (.pair (.int .i64) (.int .i64)) (.pair (.int .i64) (.int .i64)))) x.1 (Int.toNat x.2.2.1)).1.2 : Int) == x.2.1.1.2) && true)) = true then (if (decide (0 ≤ (x.2.2.1 : Int)) && decide (x.2.2.1 < ((List.length x.1 : Nat) : Int))) = true then (if (decide (0 ≤ (x.2.2.1 : Int)) && decide (x.2.2.1 < ((List.length x.1 : Nat) : Int))) = true then (some (([(gt (.pair (.pair (.int .i64) (.int .i64)) (.pair (.pair (.int .i64) (.int .i64)) (.pair (.int .i64) (.int .i64)))) x.1 (Int.toNat x.2.2.1)).2.1, (gt (.pair (.pair (.int .i64) (.int .i64)) (.pair (.pair (.int .i64) (.int .i64)) (.pair (.int .i64) (.int .i64)))) x.1 (Int.toNat x.2.2.1)).2.2], (true, ())), ())) else none) else none) else (if (decide ((x.2.2.1 : Int) > 0)) = true then (if (decide (0 ≤ ((IntKind.wrap .i64 (x.2.2.1 - 1)) : Int)) && decide ((IntKind.wrap .i64 (x.2.2.1 - 1)) < ((List.length x.1 : Nat) : Int))) = true then (Option.bind (F36.den (((gt (.pair (.pair (.int .i64) (.int .i64)) (.pair (.pair (.int .i64) (.int .i64)) (.pair (.int .i64) (.int .i64)))) x.1 (Int.toNat (IntKind.wrap .i64 (x.2.2.1 - 1)))).1, ()), ((x.2.1.1, ()), ()))) fun y3 => (if y3.1.1 = true then (if (decide (0 ≤ (x.2.2.1 : Int)) && decide (x.2.2.1 < ((List.length x.1 : Nat) : Int))) = true then (Option.bind (F36.den ((x.2.1.1, ()), (((gt (.pair (.pair (.int .i64) (.int .i64)) (.pair (.pair (.int .i64) (.int .i64)) (.pair (.int .i64) (.int .i64)))) x.1 (Int.toNat x.2.2.1)).1, ()), ()))) fun y4 => (if y4.1.1 = true then (if (decide (0 ≤ ((IntKind.wrap .i64 (x.2.2.1 - 1)) : Int)) && decide ((IntKind.wrap .i64 (x.2.2.1 - 1)) < ((List.length x.1 : Nat) : Int))) = true then (if (decide (0 ≤ (x.2.2.1 : Int)) && decide (x.2.2.1 < ((List.length x.1 : Nat) : Int))) = true then (Option.bind (F51.den (((gt (.pair (.pair (.int .i64) (.int .i64)) (.pair (.pair (.int .i64) (.int .i64)) (.pair (.int .i64) (.int .i64)))) x.1 (Int.toNat (IntKind.wrap .i64 (x.2.2.1 - 1)))), ()), (((gt (.pair (.pair (.int .i64) (.int .i64)) (.pair (.pair (.int .i64) (.int .i64)) (.pair (.int .i64) (.int .i64)))) x.1 (Int.toNat x.2.2.1)), ()), ()))) fun y5 => (Option.bind (F52.den ((y5.1.1.1, ()), ((x.2.1.1, ()), ()))) fun y6 => (Option.bind (F52.den ((y5.1.2.1.1, ()), ((x.2.1.1, ()), ()))) fun y7 => (if (!y5.1.2.2.1) = false then (Option.bind (F53.den ([y6.1.1.1, y7.1.1.1], (2, ()))) fun y8 => (if (!y8.1.1) = true then (some ((([] : List (Int × Int)), (false, ())), ())) else (some (([y6.1.1.1, y7.1.1.1], (true, ())), ())))) else (some ((([] : List (Int × Int)), (false, ())), ())))))) else none) else none) else (r0 (x.1, ((x.2.1.1, ()), ((IntKind.wrap .i64 (x.2.2.1 + 1)), ())))))) else none) else (r0 (x.1, ((x.2.1.1, ()), ((IntKind.wrap .i64 (x.2.2.1 + 1)), ())))))) else none) else (r0 (x.1, ((x.2.1.1, ()), ((IntKind.wrap .i64 (x.2.2.1 + 1)), ())))))) else none) else (some ((([] : List (Int × Int)), (false, ())), ())))
noncomputable def B0 (r0 : X0 → Y) (x : X0) : Y := b0 r0 x
noncomputable def L0 : Nat → X0 → Y := itr B0
theorem rnd0 (l0 : X0 → Y) (r0 : X0 → Y) (x : X0) : rndV Try.prog T 96 [] la a0 c0 (ltv (O0) c0) (kD0 l0) r0 x = b0 r0 x := by kernel_rfl
theorem rd0 (r0 : X0 → Y) (x : X0) : rndAt Try.prog T 96 [] la a0 c0 k0 r0 x = B0 r0 x :=
  have h : rndAt Try.prog T 96 [] la a0 c0 k0 r0 x = rndV Try.prog T 96 [] la a0 c0 (ltv (O0) c0) (kD0 (w0 big)) r0 x := rndV_eq (ann := a0) kD0_eq (lt0_eq r0) x
  h.trans (rnd0 (w0 big) r0 x)
theorem w0_eq : w0 = L0 := by exact lp_itr (P := Try.prog) (Δ := T) (nt := 96) (fp := []) (la := la) (R := R) (ann := a0) (body := c0) (K := k0) (B := B0) (fun r0 x => rd0 r0 x)
noncomputable def d0 (l0 : X0 → Y) (x : X) : Y := (Option.bind (F26.den (x.1, ())) fun y1 => (if (!y1.1.1) = false then (Option.bind (F31.den ((x.2.1.1, ()), ())) fun y2 => (if (!y2.1.1) = true then (some ((([] : List (Int × Int)), (false, ())), ())) else (l0 (x.1, ((x.2.1.1, ()), (0, ())))))) else (some ((([] : List (Int × Int)), (false, ())), ()))))
noncomputable def den (x : X) : Y := d0 (L0 big) x
theorem main_eq (l0 : X0 → Y) (x : X) : evFV Try.prog T 96 la c [.tmp 4, .tmp 5] ps rs (ltv (O l0) c) x = d0 l0 x := by kernel_rfl
theorem ok {J : World → Prop} {G : Nat} : Con Try.prog J G 35 ps rs den := by
  have hT : TblOk Try.prog J G T := (tbl_cons (by intro e he; simp only [List.mem_cons, List.not_mem_nil, or_false] at he; subst he; exact F26.ok) (tbl_cons (by intro e he; simp only [List.mem_cons, List.not_mem_nil, or_false] at he; subst he; exact F31.ok) (tbl_cons (by intro e he; simp only [List.mem_cons, List.not_mem_nil, or_false] at he; subst he; exact F36.ok) (tbl_cons (by intro e he; simp only [List.mem_cons, List.not_mem_nil, or_false] at he; subst he; exact F51.ok) (tbl_cons (by intro e he; simp only [List.mem_cons, List.not_mem_nil, or_false] at he; subst he; exact F52.ok) (tbl_cons (by intro e he; simp only [List.mem_cons, List.not_mem_nil, or_false] at he; subst he; exact F53.ok) tbl_nil))))))
  exact Con.of_eq (fn_ok (fn := Try.f35) (c := c) (nt := 96) (res := [.tmp 4, .tmp 5]) (ps := ps) (rs := rs) follows hT (by kernel_rfl) (by kernel_rfl) (by kernel_rfl) (by kernel_rfl) (by kernel_rfl) (by kernel_rfl) la) (fun x => (evFV_eq lt_eq x).trans ((main_eq (w0 big) x).trans (by rw [w0_eq]; rfl)))
end F35
/-! g03413/spec.CutTrack -/
namespace F15
abbrev ps : List PM := [.c (.dat (.sl (.pair (.pair (.int .i64) (.int .i64)) (.pair (.pair (.int .i64) (.int .i64)) (.pair (.int .i64) (.int .i64)))))), .agg [.dat (.pair (.int .i64) (.int .i64))], .agg [.dat (.pair (.int .i64) (.int .i64))]]
abbrev rs : List PM := [.c (.own true (.pair (.pair (.int .i64) (.int .i64)) (.pair (.pair (.int .i64) (.int .i64)) (.pair (.int .i64) (.int .i64))))), .c (.dat .bool)]
abbrev X : Type := ((List ((Int × Int) × ((Int × Int) × (Int × Int)))) × (((Int × Int) × Unit) × (((Int × Int) × Unit) × Unit)))
abbrev R : Type := ((List ((Int × Int) × ((Int × Int) × (Int × Int)))) × (Bool × Unit)) × Unit
abbrev Y : Type := Option R
noncomputable def T : Tbl := tbl [(26, [⟨F26.ps, F26.rs, F26.den⟩]), (35, [⟨F35.ps, F35.rs, F35.den⟩]), (36, [⟨F36.ps, F36.rs, F36.den⟩])]
noncomputable def c : Code := codeOf Try.f15
abbrev X0 : Type := ((List ((Int × Int) × ((Int × Int) × (Int × Int)))) × (((Int × Int) × Unit) × (((Int × Int) × Unit) × ((List (Int × Int)) × ((List ((Int × Int) × ((Int × Int) × (Int × Int)))) × (Int × Unit))))))
noncomputable def a0 : LAnn := ⟨[0, 4, 5, 10, 12, 13], [.c (.dat (.sl (.pair (.pair (.int .i64) (.int .i64)) (.pair (.pair (.int .i64) (.int .i64)) (.pair (.int .i64) (.int .i64)))))), .ptr [.dat (.pair (.int .i64) (.int .i64))], .ptr [.dat (.pair (.int .i64) (.int .i64))], .c (.dat (.sl (.pair (.int .i64) (.int .i64)))), .c (.own true (.pair (.pair (.int .i64) (.int .i64)) (.pair (.pair (.int .i64) (.int .i64)) (.pair (.int .i64) (.int .i64))))), .c (.dat (.int .i64))]⟩
noncomputable def la : Nat → Option LAnn := fun k => lookL [(7, a0)] k
noncomputable def fin : Exit → St → Y := retK (finish Try.prog ps rs [.tmp 6, .tmp 7])
noncomputable def O (l0 : X0 → Y) : Ora R := ora [(7, ⟨a0, l0⟩)]
noncomputable def c0 : Code := atP c [1, 1, 1, 1, 1, 0, 1, 0, 0]
noncomputable def k0 : Exit → St → Y := kAt Try.prog T 95 [] la c [1, 1, 1, 1, 1, 0, 1, 0] fin
noncomputable def kD0 (l0 : X0 → Y) : Exit → St → Y := kAtD Try.prog T 95 [] la c [1, 1, 1, 1, 1, 0, 1, 0] (ltv (O l0) c) fin
noncomputable def w0 : Nat → X0 → Y := lpAt Try.prog T 95 [] la a0 c0 k0
noncomputable def O0 : Ora R := ora []
theorem lt_eq : ltOf Try.prog T 95 [] la c fin = ltv (O (w0 big)) c := by kernel_rfl
theorem lt0_eq (r0 : X0 → Y) : ltOf Try.prog T 95 [] la c0 (contOf a0 k0 r0) = ltv (O0) c0 := by kernel_rfl
theorem kD0_eq : k0 = kD0 (w0 big) := contV_eq rfl lt_eq
noncomputable def b0 (r0 : X0 → Y) (x : X0) : Y := (if (decide ((x.2.2.2.2.2.1 : Int) < (((List.length x.1) : Nat) : Int))) = true then (if (decide (0 ≤ (x.2.2.2.2.2.1 : Int)) && decide (x.2.2.2.2.2.1 < ((List.length x.1 : Nat) : Int))) = true then (Option.bind (F36.den ((x.2.1.1, ()), (((gt (.pair (.pair (.int .i64) (.int .i64)) (.pair (.pair (.int .i64) (.int .i64)) (.pair (.int .i64) (.int .i64)))) x.1 (Int.toNat x.2.2.2.2.2.1)).1, ()), ()))) fun y4 => (if y4.1.1 = true then (if (decide (0 ≤ (x.2.2.2.2.2.1 : Int)) && decide (x.2.2.2.2.2.1 < ((List.length x.1 : Nat) : Int))) = true then (Option.bind (F36.den (((gt (.pair (.pair (.int .i64) (.int .i64)) (.pair (.pair (.int .i64) (.int .i64)) (.pair (.int .i64) (.int .i64)))) x.1 (Int.toNat x.2.2.2.2.2.1)).1, ()), ((x.2.2.1.1, ()), ()))) fun y5 => (if y5.1.1 = true then (if (decide (0 ≤ (x.2.2.2.2.2.1 : Int)) && decide (x.2.2.2.2.2.1 < ((List.length x.1 : Nat) : Int))) = true then (if (decide (List.length x.2.2.2.2.1 + List.length [(gt (.pair (.pair (.int .i64) (.int .i64)) (.pair (.pair (.int .i64) (.int .i64)) (.pair (.int .i64) (.int .i64)))) x.1 (Int.toNat x.2.2.2.2.2.1))] ≤ cap36)) = true then (r0 (x.1, ((x.2.1.1, ()), ((x.2.2.1.1, ()), (x.2.2.2.1, ((x.2.2.2.2.1 ++ [(gt (.pair (.pair (.int .i64) (.int .i64)) (.pair (.pair (.int .i64) (.int .i64)) (.pair (.int .i64) (.int .i64)))) x.1 (Int.toNat x.2.2.2.2.2.1))]), ((IntKind.wrap .i64 (x.2.2.2.2.2.1 + 1)), ()))))))) else none) else none) else (r0 (x.1, ((x.2.1.1, ()), ((x.2.2.1.1, ()), (x.2.2.2.1, (x.2.2.2.2.1, ((IntKind.wrap .i64 (x.2.2.2.2.2.1 + 1)), ()))))))))) else none) else (r0 (x.1, ((x.2.1.1, ()), ((x.2.2.1.1, ()), (x.2.2.2.1, (x.2.2.2.2.1, ((IntKind.wrap .i64 (x.2.2.2.2.2.1 + 1)), ()))))))))) else none) else (if (!(((x.2.1.1.1 : Int) == x.2.2.1.1.1) && (((x.2.1.1.2 : Int) == x.2.2.1.1.2) && true))) = true then (if (decide (0 ≤ (0 : Int)) && decide (0 < ((List.length x.2.2.2.1 : Nat) : Int))) = true then (if (decide (0 ≤ (1 : Int)) && decide (1 < ((List.length x.2.2.2.1 : Nat) : Int))) = true then (if (decide (List.length x.2.2.2.2.1 + List.length [(x.2.2.1.1, ((gt (.pair (.int .i64) (.int .i64)) x.2.2.2.1 (Int.toNat 0)), (gt (.pair (.int .i64) (.int .i64)) x.2.2.2.1 (Int.toNat 1))))] ≤ cap36)) = true then (Option.bind (F26.den ((x.2.2.2.2.1 ++ [(x.2.2.1.1, ((gt (.pair (.int .i64) (.int .i64)) x.2.2.2.1 (Int.toNat 0)), (gt (.pair (.int .i64) (.int .i64)) x.2.2.2.1 (Int.toNat 1))))]), ())) fun y6 => (if (!y6.1.1) = true then (some ((([] : List ((Int × Int) × ((Int × Int) × (Int × Int)))), (false, ())), ())) else (some (((x.2.2.2.2.1 ++ [(x.2.2.1.1, ((gt (.pair (.int .i64) (.int .i64)) x.2.2.2.1 (Int.toNat 0)), (gt (.pair (.int .i64) (.int .i64)) x.2.2.2.1 (Int.toNat 1))))]), (true, ())), ())))) else none) else none) else none) else (Option.bind (F26.den (x.2.2.2.2.1, ())) fun y7 => (if (!y7.1.1) = true then (some ((([] : List ((Int × Int) × ((Int × Int) × (Int × Int)))), (false, ())), ())) else (some ((x.2.2.2.2.1, (true, ())), ()))))))
noncomputable def B0 (r0 : X0 → Y) (x : X0) : Y := b0 r0 x
noncomputable def L0 : Nat → X0 → Y := itr B0
theorem rnd0 (l0 : X0 → Y) (r0 : X0 → Y) (x : X0) : rndV Try.prog T 95 [] la a0 c0 (ltv (O0) c0) (kD0 l0) r0 x = b0 r0 x := by kernel_rfl
theorem rd0 (r0 : X0 → Y) (x : X0) : rndAt Try.prog T 95 [] la a0 c0 k0 r0 x = B0 r0 x :=
  have h : rndAt Try.prog T 95 [] la a0 c0 k0 r0 x = rndV Try.prog T 95 [] la a0 c0 (ltv (O0) c0) (kD0 (w0 big)) r0 x := rndV_eq (ann := a0) kD0_eq (lt0_eq r0) x
  h.trans (rnd0 (w0 big) r0 x)
theorem w0_eq : w0 = L0 := by exact lp_itr (P := Try.prog) (Δ := T) (nt := 95) (fp := []) (la := la) (R := R) (ann := a0) (body := c0) (K := k0) (B := B0) (fun r0 x => rd0 r0 x)
noncomputable def d0 (l0 : X0 → Y) (x : X) : Y := (Option.bind (F35.den (x.1, ((x.2.1.1, ()), ()))) fun y1 => (Option.bind (F35.den (x.1, ((x.2.2.1.1, ()), ()))) fun y2 => (if (!y1.1.2.1) = false then (if (!y2.1.2.1) = false then (Option.bind (F36.den ((x.2.2.1.1, ()), ((x.2.1.1, ()), ()))) fun y3 => (if y3.1.1 = true then (some ((([] : List ((Int × Int) × ((Int × Int) × (Int × Int)))), (false, ())), ())) else (if (decide (0 ≤ (0 : Int)) && decide (0 < ((List.length y1.1.1 : Nat) : Int))) = true then (if (decide (0 ≤ (1 : Int)) && decide (1 < ((List.length y1.1.1 : Nat) : Int))) = true then (l0 (x.1, ((x.2.1.1, ()), ((x.2.2.1.1, ()), (y2.1.1, ([(x.2.1.1, ((gt (.pair (.int .i64) (.int .i64)) y1.1.1 (Int.toNat 0)), (gt (.pair (.int .i64) (.int .i64)) y1.1.1 (Int.toNat 1))))], (0, ()))))))) else none) else none))) else (some ((([] : List ((Int × Int) × ((Int × Int) × (Int × Int)))), (false, ())), ()))) else (some ((([] : List ((Int × Int) × ((Int × Int) × (Int × Int)))), (false, ())), ())))))
noncomputable def den (x : X) : Y := d0 (L0 big) x
theorem main_eq (l0 : X0 → Y) (x : X) : evFV Try.prog T 95 la c [.tmp 6, .tmp 7] ps rs (ltv (O l0) c) x = d0 l0 x := by kernel_rfl
theorem ok {J : World → Prop} {G : Nat} : Con Try.prog J G 15 ps rs den := by
  have hT : TblOk Try.prog J G T := (tbl_cons (by intro e he; simp only [List.mem_cons, List.not_mem_nil, or_false] at he; subst he; exact F26.ok) (tbl_cons (by intro e he; simp only [List.mem_cons, List.not_mem_nil, or_false] at he; subst he; exact F35.ok) (tbl_cons (by intro e he; simp only [List.mem_cons, List.not_mem_nil, or_false] at he; subst he; exact F36.ok) tbl_nil)))
  exact Con.of_eq (fn_ok (fn := Try.f15) (c := c) (nt := 95) (res := [.tmp 6, .tmp 7]) (ps := ps) (rs := rs) follows hT (by kernel_rfl) (by kernel_rfl) (by kernel_rfl) (by kernel_rfl) (by kernel_rfl) (by kernel_rfl) la) (fun x => (evFV_eq lt_eq x).trans ((main_eq (w0 big) x).trans (by rw [w0_eq]; rfl)))
end F15
/-! g03413/laws.samePoint -/
namespace F16
abbrev ps : List PM := [.c (.dat (.sl (.pair (.int .i64) (.int .i64)))), .c (.dat (.sl (.pair (.int .i64) (.int .i64))))]
abbrev rs : List PM := [.c (.dat .bool)]
abbrev X : Type := ((List (Int × Int)) × ((List (Int × Int)) × Unit))
abbrev R : Type := (Bool × Unit) × Unit
abbrev Y : Type := Option R
noncomputable def T : Tbl := tbl []
noncomputable def c : Code := codeOf Try.f16
abbrev X0 : Type := ((List (Int × Int)) × ((List (Int × Int)) × (Int × Unit)))
noncomputable def a0 : LAnn := ⟨[0, 1, 5], [.c (.dat (.sl (.pair (.int .i64) (.int .i64)))), .c (.dat (.sl (.pair (.int .i64) (.int .i64)))), .c (.dat (.int .i64))]⟩
noncomputable def la : Nat → Option LAnn := fun k => lookL [(4, a0)] k
noncomputable def fin : Exit → St → Y := retK (finish Try.prog ps rs [.tmp 4])
noncomputable def O (l0 : X0 → Y) : Ora R := ora [(4, ⟨a0, l0⟩)]
noncomputable def c0 : Code := atP c [1, 1, 0, 1, 0, 0]
noncomputable def k0 : Exit → St → Y := kAt Try.prog T 26 [] la c [1, 1, 0, 1, 0] fin
noncomputable def kD0 (l0 : X0 → Y) : Exit → St → Y := kAtD Try.prog T 26 [] la c [1, 1, 0, 1, 0] (ltv (O l0) c) fin
noncomputable def w0 : Nat → X0 → Y := lpAt Try.prog T 26 [] la a0 c0 k0
noncomputable def O0 : Ora R := ora []
theorem lt_eq : ltOf Try.prog T 26 [] la c fin = ltv (O (w0 big)) c := by kernel_rfl
theorem lt0_eq (r0 : X0 → Y) : ltOf Try.prog T 26 [] la c0 (contOf a0 k0 r0) = ltv (O0) c0 := by kernel_rfl
theorem kD0_eq : k0 = kD0 (w0 big) := contV_eq rfl lt_eq
noncomputable def b0 (r0 : X0 → Y) (x : X0) : Y := (if (decide ((x.2.2.1 : Int) < (((List.length x.1) : Nat) : Int))) = true then (if (decide (0 ≤ (x.2.2.1 : Int)) && decide (x.2.2.1 < ((List.length x.1 : Nat) : Int))) = true then (if (decide (0 ≤ (x.2.2.1 : Int)) && decide (x.2.2.1 < ((List.length x.2.1 : Nat) : Int))) = true then (if (!((((gt (.pair (.int .i64) (.int .i64)) x.1 (Int.toNat x.2.2.1)).1 : Int) == (gt (.pair (.int .i64) (.int .i64)) x.2.1 (Int.toNat x.2.2.1)).1) && ((((gt (.pair (.int .i64) (.int .i64)) x.1 (Int.toNat x.2.2.1)).2 : Int) == (gt (.pair (.int .i64) (.int .i64)) x.2.1 (Int.toNat x.2.2.1)).2) && true))) = true then (some ((false, ()), ())) else (r0 (x.1, (x.2.1, ((IntKind.wrap .i64 (x.2.2.1 + 1)), ()))))) else none) else none) else (some ((true, ()), ())))
noncomputable def B0 (r0 : X0 → Y) (x : X0) : Y := b0 r0 x
noncomputable def L0 : Nat → X0 → Y := itr B0
theorem rnd0 (l0 : X0 → Y) (r0 : X0 → Y) (x : X0) : rndV Try.prog T 26 [] la a0 c0 (ltv (O0) c0) (kD0 l0) r0 x = b0 r0 x := by kernel_rfl
theorem rd0 (r0 : X0 → Y) (x : X0) : rndAt Try.prog T 26 [] la a0 c0 k0 r0 x = B0 r0 x :=
  have h : rndAt Try.prog T 26 [] la a0 c0 k0 r0 x = rndV Try.prog T 26 [] la a0 c0 (ltv (O0) c0) (kD0 (w0 big)) r0 x := rndV_eq (ann := a0) kD0_eq (lt0_eq r0) x
  h.trans (rnd0 (w0 big) r0 x)
theorem w0_eq : w0 = L0 := by exact lp_itr (P := Try.prog) (Δ := T) (nt := 26) (fp := []) (la := la) (R := R) (ann := a0) (body := c0) (K := k0) (B := B0) (fun r0 x => rd0 r0 x)
noncomputable def d0 (l0 : X0 → Y) (x : X) : Y := (if (((((List.length x.1) : Nat) : Int) : Int) != (((List.length x.2.1) : Nat) : Int)) = true then (some ((false, ()), ())) else (l0 (x.1, (x.2.1, (0, ())))))
noncomputable def den (x : X) : Y := d0 (L0 big) x
theorem main_eq (l0 : X0 → Y) (x : X) : evFV Try.prog T 26 la c [.tmp 4] ps rs (ltv (O l0) c) x = d0 l0 x := by kernel_rfl
theorem ok {J : World → Prop} {G : Nat} : Con Try.prog J G 16 ps rs den := by
  have hT : TblOk Try.prog J G T := tbl_nil
  exact Con.of_eq (fn_ok (fn := Try.f16) (c := c) (nt := 26) (res := [.tmp 4]) (ps := ps) (rs := rs) follows hT (by kernel_rfl) (by kernel_rfl) (by kernel_rfl) (by kernel_rfl) (by kernel_rfl) (by kernel_rfl) la) (fun x => (evFV_eq lt_eq x).trans ((main_eq (w0 big) x).trans (by rw [w0_eq]; rfl)))
end F16
/-! g03413/impl.JoinTracks -/
namespace F18
abbrev ps : List PM := [.c (.dat (.sl (.pair (.pair (.int .i64) (.int .i64)) (.pair (.pair (.int .i64) (.int .i64)) (.pair (.int .i64) (.int .i64)))))), .c (.dat (.sl (.pair (.pair (.int .i64) (.int .i64)) (.pair (.pair (.int .i64) (.int .i64)) (.pair (.int .i64) (.int .i64))))))]
abbrev rs : List PM := [.c (.own true (.pair (.pair (.int .i64) (.int .i64)) (.pair (.pair (.int .i64) (.int .i64)) (.pair (.int .i64) (.int .i64))))), .c (.dat .bool)]
abbrev X : Type := ((List ((Int × Int) × ((Int × Int) × (Int × Int)))) × ((List ((Int × Int) × ((Int × Int) × (Int × Int)))) × Unit))
abbrev R : Type := ((List ((Int × Int) × ((Int × Int) × (Int × Int)))) × (Bool × Unit)) × Unit
abbrev Y : Type := Option R
noncomputable def T : Tbl := tbl [(24, [⟨F24.ps, F24.rs, F24.den⟩])]
noncomputable def c : Code := codeOf Try.f18
noncomputable def la : Nat → Option LAnn := fun k => lookL [] k
noncomputable def fin : Exit → St → Y := retK (finish Try.prog ps rs [.tmp 4, .tmp 5])
noncomputable def O : Ora R := ora []
theorem lt_eq : ltOf Try.prog T 41 [] la c fin = ltv (O) c := by kernel_rfl
noncomputable def d0 (x : X) : Y := (Option.bind (F24.den (x.1, ())) fun y1 => (if (!y1.1.1) = false then (Option.bind (F24.den (x.2.1, ())) fun y2 => (if (!y2.1.1) = false then (if (decide (0 ≤ ((IntKind.wrap .i64 ((((List.length x.1) : Nat) : Int) - 1)) : Int)) && decide ((IntKind.wrap .i64 ((((List.length x.1) : Nat) : Int) - 1)) < ((List.length x.1 : Nat) : Int))) = true then (if (decide (0 ≤ (0 : Int)) && decide (0 < ((List.length x.2.1 : Nat) : Int))) = true then (if (!(((((gt (.pair (.pair (.int .i64) (.int .i64)) (.pair (.pair (.int .i64) (.int .i64)) (.pair (.int .i64) (.int .i64)))) x.1 (Int.toNat (IntKind.wrap .i64 ((((List.length x.1) : Nat) : Int) - 1)))).1.1 : Int) == (gt (.pair (.pair (.int .i64) (.int .i64)) (.pair (.pair (.int .i64) (.int .i64)) (.pair (.int .i64) (.int .i64)))) x.2.1 (Int.toNat 0)).1.1) && ((((gt (.pair (.pair (.int .i64) (.int .i64)) (.pair (.pair (.int .i64) (.int .i64)) (.pair (.int .i64) (.int .i64)))) x.1 (Int.toNat (IntKind.wrap .i64 ((((List.length x.1) : Nat) : Int) - 1)))).1.2 : Int) == (gt (.pair (.pair (.int .i64) (.int .i64)) (.pair (.pair (.int .i64) (.int .i64)) (.pair (.int .i64) (.int .i64)))) x.2.1 (Int.toNat 0)).1.2) && true)) && (((((gt (.pair (.pair (.int .i64) (.int .i64)) (.pair (.pair (.int .i64) (.int .i64)) (.pair (.int .i64) (.int .i64)))) x.1 (Int.toNat (IntKind.wrap .i64 ((((List.length x.1) : Nat) : Int) - 1)))).2.1.1 : Int) == (gt (.pair (.pair (.int .i64) (.int .i64)) (.pair (.pair (.int .i64) (.int .i64)) (.pair (.int .i64) (.int .i64)))) x.2.1 (Int.toNat 0)).2.1.1) && ((((gt (.pair (.pair (.int .i64) (.int .i64)) (.pair (.pair (.int .i64) (.int .i64)) (.pair (.int .i64) (.int .i64)))) x.1 (Int.toNat (IntKind.wrap .i64 ((((List.length x.1) : Nat) : Int) - 1)))).2.1.2 : Int) == (gt (.pair (.pair (.int .i64) (.int .i64)) (.pair (.pair (.int .i64) (.int .i64)) (.pair (.int .i64) (.int .i64)))) x.2.1 (Int.toNat 0)).2.1.2) && true)) && (((((gt (.pair (.pair (.int .i64) (.int .i64)) (.pair (.pair (.int .i64) (.int .i64)) (.pair (.int .i64) (.int .i64)))) x.1 (Int.toNat (IntKind.wrap .i64 ((((List.length x.1) : Nat) : Int) - 1)))).2.2.1 : Int) == (gt (.pair (.pair (.int .i64) (.int .i64)) (.pair (.pair (.int .i64) (.int .i64)) (.pair (.int .i64) (.int .i64)))) x.2.1 (Int.toNat 0)).2.2.1) && ((((gt (.pair (.pair (.int .i64) (.int .i64)) (.pair (.pair (.int .i64) (.int .i64)) (.pair (.int .i64) (.int .i64)))) x.1 (Int.toNat (IntKind.wrap .i64 ((((List.length x.1) : Nat) : Int) - 1)))).2.2.2 : Int) == (gt (.pair (.pair (.int .i64) (.int .i64)) (.pair (.pair (.int .i64) (.int .i64)) (.pair (.int .i64) (.int .i64)))) x.2.1 (Int.toNat 0)).2.2.2) && true)) && true)))) = false then (if (decide (((IntKind.wrap .i64 ((IntKind.wrap .i64 ((((List.length x.1) : Nat) : Int) + (((List.length x.2.1) : Nat) : Int))) - 1)) : Int) > 6)) = true then (some ((([] : List ((Int × Int) × ((Int × Int) × (Int × Int)))), (false, ())), ())) else (if (decide (List.length ([] : List ((Int × Int) × ((Int × Int) × (Int × Int)))) + List.length x.1 ≤ cap36)) = true then (if (decide (0 ≤ 1) && decide (1 ≤ ((List.length x.2.1 : Nat) : Int))) = true then (if (decide (List.length (([] : List ((Int × Int) × ((Int × Int) × (Int × Int)))) ++ x.1) + List.length (List.drop (Int.toNat 1) x.2.1) ≤ cap36)) = true then (some ((((([] : List ((Int × Int) × ((Int × Int) × (Int × Int)))) ++ x.1) ++ (List.drop (Int.toNat 1) x.2.1)), (true, ())), ())) else none) else none) else none)) else (some ((([] : List ((Int × Int) × ((Int × Int) × (Int × Int)))), (false, ())), ()))) else none) else none) else (some ((([] : List ((Int × Int) × ((Int × Int) × (Int × Int)))), (false, ())), ())))) else (some ((([] : List ((Int × Int) × ((Int × Int) × (Int × Int)))), (false, ())), ()))))
noncomputable def den (x : X) : Y := d0 x
theorem main_eq (x : X) : evFV Try.prog T 41 la c [.tmp 4, .tmp 5] ps rs (ltv (O) c) x = d0 x := by kernel_rfl
theorem ok {J : World → Prop} {G : Nat} : Con Try.prog J G 18 ps rs den := by
  have hT : TblOk Try.prog J G T := (tbl_cons (by intro e he; simp only [List.mem_cons, List.not_mem_nil, or_false] at he; subst he; exact F24.ok) tbl_nil)
  exact Con.of_eq (fn_ok (fn := Try.f18) (c := c) (nt := 41) (res := [.tmp 4, .tmp 5]) (ps := ps) (rs := rs) follows hT (by kernel_rfl) (by kernel_rfl) (by kernel_rfl) (by kernel_rfl) (by kernel_rfl) (by kernel_rfl) la) (fun x => (evFV_eq lt_eq x).trans (main_eq x))
end F18
/-! g03413/laws.FnCuts -/
namespace F4
abbrev ps : List PM := [.c (.dat (.sl (.int .u8)))]
abbrev rs : List PM := [.c (.dat .bool)]
abbrev X : Type := ((List Int) × Unit)
abbrev R : Type := (Bool × Unit) × Unit
abbrev Y : Type := Option R
noncomputable def T : Tbl := tbl [(5, [⟨F5.ps, F5.rs, F5.den⟩]), (9, [⟨F9.ps, F9.rs, F9.den⟩]), (10, [⟨F10.ps, F10.rs, F10.den⟩]), (12, [⟨F12.ps, F12.rs, F12.den⟩]), (13, [⟨F13.ps, F13.rs, F13.den⟩]), (14, [⟨F14.ps, F14.rs, F14.den⟩]), (15, [⟨F15.ps, F15.rs, F15.den⟩]), (16, [⟨F16.ps, F16.rs, F16.den⟩]), (17, [⟨F17.ps, F17.rs, F17.den⟩]), (18, [⟨F18.ps, F18.rs, F18.den⟩])]
noncomputable def c : Code := codeOf Try.f4
noncomputable def la : Nat → Option LAnn := fun k => lookL [] k
noncomputable def fin : Exit → St → Y := retK (finish Try.prog ps rs [.tmp 2])
noncomputable def O : Ora R := ora []
theorem lt_eq : ltOf Try.prog T 148 [] la c fin = ltv (O) c := by kernel_rfl
noncomputable def d0 (x : X) : Y := (Option.bind (F5.den (x.1, ())) fun y1 => (if y1.1.1 = true then (some ((true, ()), ())) else (Option.bind (F13.den (x.1, ())) fun y2 => (Option.bind (F14.den (y2.1.1, ((y2.1.2.1.1, ()), ((y2.1.2.2.1.1, ()), ())))) fun y3 => (Option.bind (F15.den (y2.1.1, ((y2.1.2.1.1, ()), ((y2.1.2.2.1.1, ()), ())))) fun y4 => (if (!(y3.1.2.1 == y4.1.2.1)) = true then (some ((false, ()), ())) else (if (!y3.1.2.1) = true then (some (((((((List.length y3.1.1) : Nat) : Int) : Int) == 0), ()), ())) else (Option.bind (F9.den (x.1, (1, ()))) fun y5 => (if (decide (0 ≤ (0 : Int)) && decide (0 < ((List.length y5.1.1 : Nat) : Int))) = true then (Option.bind (F10.den (y2.1.1, (((gt (.pair (.int .i64) (.int .i64)) y5.1.1 (Int.toNat 0)), ()), ()))) fun y6 => (if (decide (0 ≤ (0 : Int)) && decide (0 < ((List.length y5.1.1 : Nat) : Int))) = true then (Option.bind (F10.den (y3.1.1, (((gt (.pair (.int .i64) (.int .i64)) y5.1.1 (Int.toNat 0)), ()), ()))) fun y7 => (Option.bind (F12.den (y2.1.1, ())) fun y8 => (Option.bind (F12.den (y3.1.1, ())) fun y9 => (if y6.1.2.1 = true then (if y7.1.2.1 = true then (Option.bind (F16.den (y6.1.1, (y7.1.1, ()))) fun y10 => (if (!y10.1.1) = false then (if y8.1.2.1 = true then (if y9.1.2.1 = true then (Option.bind (F17.den ((y9.1.1.1, ()), ((y8.1.1.1, ()), ()))) fun y11 => (if (decide ((y11.1.1 : Int) > 0)) = true then (some ((false, ()), ())) else (if (decide (0 ≤ (0 : Int)) && decide (0 < ((List.length y2.1.1 : Nat) : Int))) = true then (Option.bind (F14.den (y2.1.1, (((gt (.pair (.pair (.int .i64) (.int .i64)) (.pair (.pair (.int .i64) (.int .i64)) (.pair (.int .i64) (.int .i64)))) y2.1.1 (Int.toNat 0)).1, ()), ((y2.1.2.1.1, ()), ())))) fun y12 => (Option.bind (F18.den (y12.1.1, (y3.1.1, ()))) fun y13 => (if (decide (0 ≤ (0 : Int)) && decide (0 < ((List.length y5.1.1 : Nat) : Int))) = true then (Option.bind (F10.den (y13.1.1, (((gt (.pair (.int .i64) (.int .i64)) y5.1.1 (Int.toNat 0)), ()), ()))) fun y14 => (if (!y12.1.2.1) = false then (if (!y13.1.2.1) = false then (if (!y14.1.2.1) = false then (if (!y6.1.2.1) = false then (Option.bind (F16.den (y6.1.1, (y14.1.1, ()))) fun y15 => (some ((y15.1.1, ()), ()))) else (some ((true, ()), ()))) else (some ((true, ()), ()))) else (some ((true, ()), ()))) else (some ((true, ()), ())))) else none))) else none))) else (if (decide (0 ≤ (0 : Int)) && decide (0 < ((List.length y2.1.1 : Nat) : Int))) = true then (Option.bind (F14.den (y2.1.1, (((gt (.pair (.pair (.int .i64) (.int .i64)) (.pair (.pair (.int .i64) (.int .i64)) (.pair (.int .i64) (.int .i64)))) y2.1.1 (Int.toNat 0)).1, ()), ((y2.1.2.1.1, ()), ())))) fun y16 => (Option.bind (F18.den (y16.1.1, (y3.1.1, ()))) fun y17 => (if (decide (0 ≤ (0 : Int)) && decide (0 < ((List.length y5.1.1 : Nat) : Int))) = true then (Option.bind (F10.den (y17.1.1, (((gt (.pair (.int .i64) (.int .i64)) y5.1.1 (Int.toNat 0)), ()), ()))) fun y18 => (if (!y16.1.2.1) = false then (if (!y17.1.2.1) = false then (if (!y18.1.2.1) = false then (if (!y6.1.2.1) = false then (Option.bind (F16.den (y6.1.1, (y18.1.1, ()))) fun y19 => (some ((y19.1.1, ()), ()))) else (some ((true, ()), ()))) else (some ((true, ()), ()))) else (some ((true, ()), ()))) else (some ((true, ()), ())))) else none))) else none)) else (if (decide (0 ≤ (0 : Int)) && decide (0 < ((List.length y2.1.1 : Nat) : Int))) = true then (Option.bind (F14.den (y2.1.1, (((gt (.pair (.pair (.int .i64) (.int .i64)) (.pair (.pair (.int .i64) (.int .i64)) (.pair (.int .i64) (.int .i64)))) y2.1.1 (Int.toNat 0)).1, ()), ((y2.1.2.1.1, ()), ())))) fun y20 => (Option.bind (F18.den (y20.1.1, (y3.1.1, ()))) fun y21 => (if (decide (0 ≤ (0 : Int)) && decide (0 < ((List.length y5.1.1 : Nat) : Int))) = true then (Option.bind (F10.den (y21.1.1, (((gt (.pair (.int .i64) (.int .i64)) y5.1.1 (Int.toNat 0)), ()), ()))) fun y22 => (if (!y20.1.2.1) = false then (if (!y21.1.2.1) = false then (if (!y22.1.2.1) = false then (if (!y6.1.2.1) = false then (Option.bind (F16.den (y6.1.1, (y22.1.1, ()))) fun y23 => (some ((y23.1.1, ()), ()))) else (some ((true, ()), ()))) else (some ((true, ()), ()))) else (some ((true, ()), ()))) else (some ((true, ()), ())))) else none))) else none)) else (some ((false, ()), ())))) else (if y8.1.2.1 = true then (if y9.1.2.1 = true then (Option.bind (F17.den ((y9.1.1.1, ()), ((y8.1.1.1, ()), ()))) fun y24 => (if (decide ((y24.1.1 : Int) > 0)) = true then (some ((false, ()), ())) else (if (decide (0 ≤ (0 : Int)) && decide (0 < ((List.length y2.1.1 : Nat) : Int))) = true then (Option.bind (F14.den (y2.1.1, (((gt (.pair (.pair (.int .i64) (.int .i64)) (.pair (.pair (.int .i64) (.int .i64)) (.pair (.int .i64) (.int .i64)))) y2.1.1 (Int.toNat 0)).1, ()), ((y2.1.2.1.1, ()), ())))) fun y25 => (Option.bind (F18.den (y25.1.1, (y3.1.1, ()))) fun y26 => (if (decide (0 ≤ (0 : Int)) && decide (0 < ((List.length y5.1.1 : Nat) : Int))) = true then (Option.bind (F10.den (y26.1.1, (((gt (.pair (.int .i64) (.int .i64)) y5.1.1 (Int.toNat 0)), ()), ()))) fun y27 => (if (!y25.1.2.1) = false then (if (!y26.1.2.1) = false then (if (!y27.1.2.1) = false then (if (!y6.1.2.1) = false then (Option.bind (F16.den (y6.1.1, (y27.1.1, ()))) fun y28 => (some ((y28.1.1, ()), ()))) else (some ((true, ()), ()))) else (some ((true, ()), ()))) else (some ((true, ()), ()))) else (some ((true, ()), ())))) else none))) else none))) else (if (decide (0 ≤ (0 : Int)) && decide (0 < ((List.length y2.1.1 : Nat) : Int))) = true then (Option.bind (F14.den (y2.1.1, (((gt (.pair (.pair (.int .i64) (.int .i64)) (.pair (.pair (.int .i64) (.int .i64)) (.pair (.int .i64) (.int .i64)))) y2.1.1 (Int.toNat 0)).1, ()), ((y2.1.2.1.1, ()), ())))) fun y29 => (Option.bind (F18.den (y29.1.1, (y3.1.1, ()))) fun y30 => (if (decide (0 ≤ (0 : Int)) && decide (0 < ((List.length y5.1.1 : Nat) : Int))) = true then (Option.bind (F10.den (y30.1.1, (((gt (.pair (.int .i64) (.int .i64)) y5.1.1 (Int.toNat 0)), ()), ()))) fun y31 => (if (!y29.1.2.1) = false then (if (!y30.1.2.1) = false then (if (!y31.1.2.1) = false then (if (!y6.1.2.1) = false then (Option.bind (F16.den (y6.1.1, (y31.1.1, ()))) fun y32 => (some ((y32.1.1, ()), ()))) else (some ((true, ()), ()))) else (some ((true, ()), ()))) else (some ((true, ()), ()))) else (some ((true, ()), ())))) else none))) else none)) else (if (decide (0 ≤ (0 : Int)) && decide (0 < ((List.length y2.1.1 : Nat) : Int))) = true then (Option.bind (F14.den (y2.1.1, (((gt (.pair (.pair (.int .i64) (.int .i64)) (.pair (.pair (.int .i64) (.int .i64)) (.pair (.int .i64) (.int .i64)))) y2.1.1 (Int.toNat 0)).1, ()), ((y2.1.2.1.1, ()), ())))) fun y33 => (Option.bind (F18.den (y33.1.1, (y3.1.1, ()))) fun y34 => (if (decide (0 ≤ (0 : Int)) && decide (0 < ((List.length y5.1.1 : Nat) : Int))) = true then (Option.bind (F10.den (y34.1.1, (((gt (.pair (.int .i64) (.int .i64)) y5.1.1 (Int.toNat 0)), ()), ()))) fun y35 => (if (!y33.1.2.1) = false then (if (!y34.1.2.1) = false then (if (!y35.1.2.1) = false then (if (!y6.1.2.1) = false then (Option.bind (F16.den (y6.1.1, (y35.1.1, ()))) fun y36 => (some ((y36.1.1, ()), ()))) else (some ((true, ()), ()))) else (some ((true, ()), ()))) else (some ((true, ()), ()))) else (some ((true, ()), ())))) else none))) else none))) else (if y8.1.2.1 = true then (if y9.1.2.1 = true then (Option.bind (F17.den ((y9.1.1.1, ()), ((y8.1.1.1, ()), ()))) fun y37 => (if (decide ((y37.1.1 : Int) > 0)) = true then (some ((false, ()), ())) else (if (decide (0 ≤ (0 : Int)) && decide (0 < ((List.length y2.1.1 : Nat) : Int))) = true then (Option.bind (F14.den (y2.1.1, (((gt (.pair (.pair (.int .i64) (.int .i64)) (.pair (.pair (.int .i64) (.int .i64)) (.pair (.int .i64) (.int .i64)))) y2.1.1 (Int.toNat 0)).1, ()), ((y2.1.2.1.1, ()), ())))) fun y38 => (Option.bind (F18.den (y38.1.1, (y3.1.1, ()))) fun y39 => (if (decide (0 ≤ (0 : Int)) && decide (0 < ((List.length y5.1.1 : Nat) : Int))) = true then (Option.bind (F10.den (y39.1.1, (((gt (.pair (.int .i64) (.int .i64)) y5.1.1 (Int.toNat 0)), ()), ()))) fun y40 => (if (!y38.1.2.1) = false then (if (!y39.1.2.1) = false then (if (!y40.1.2.1) = false then (if (!y6.1.2.1) = false then (Option.bind (F16.den (y6.1.1, (y40.1.1, ()))) fun y41 => (some ((y41.1.1, ()), ()))) else (some ((true, ()), ()))) else (some ((true, ()), ()))) else (some ((true, ()), ()))) else (some ((true, ()), ())))) else none))) else none))) else (if (decide (0 ≤ (0 : Int)) && decide (0 < ((List.length y2.1.1 : Nat) : Int))) = true then (Option.bind (F14.den (y2.1.1, (((gt (.pair (.pair (.int .i64) (.int .i64)) (.pair (.pair (.int .i64) (.int .i64)) (.pair (.int .i64) (.int .i64)))) y2.1.1 (Int.toNat 0)).1, ()), ((y2.1.2.1.1, ()), ())))) fun y42 => (Option.bind (F18.den (y42.1.1, (y3.1.1, ()))) fun y43 => (if (decide (0 ≤ (0 : Int)) && decide (0 < ((List.length y5.1.1 : Nat) : Int))) = true then (Option.bind (F10.den (y43.1.1, (((gt (.pair (.int .i64) (.int .i64)) y5.1.1 (Int.toNat 0)), ()), ()))) fun y44 => (if (!y42.1.2.1) = false then (if (!y43.1.2.1) = false then (if (!y44.1.2.1) = false then (if (!y6.1.2.1) = false then (Option.bind (F16.den (y6.1.1, (y44.1.1, ()))) fun y45 => (some ((y45.1.1, ()), ()))) else (some ((true, ()), ()))) else (some ((true, ()), ()))) else (some ((true, ()), ()))) else (some ((true, ()), ())))) else none))) else none)) else (if (decide (0 ≤ (0 : Int)) && decide (0 < ((List.length y2.1.1 : Nat) : Int))) = true then (Option.bind (F14.den (y2.1.1, (((gt (.pair (.pair (.int .i64) (.int .i64)) (.pair (.pair (.int .i64) (.int .i64)) (.pair (.int .i64) (.int .i64)))) y2.1.1 (Int.toNat 0)).1, ()), ((y2.1.2.1.1, ()), ())))) fun y46 => (Option.bind (F18.den (y46.1.1, (y3.1.1, ()))) fun y47 => (if (decide (0 ≤ (0 : Int)) && decide (0 < ((List.length y5.1.1 : Nat) : Int))) = true then (Option.bind (F10.den (y47.1.1, (((gt (.pair (.int .i64) (.int .i64)) y5.1.1 (Int.toNat 0)), ()), ()))) fun y48 => (if (!y46.1.2.1) = false then (if (!y47.1.2.1) = false then (if (!y48.1.2.1) = false then (if (!y6.1.2.1) = false then (Option.bind (F16.den (y6.1.1, (y48.1.1, ()))) fun y49 => (some ((y49.1.1, ()), ()))) else (some ((true, ()), ()))) else (some ((true, ()), ()))) else (some ((true, ()), ()))) else (some ((true, ()), ())))) else none))) else none)))))) else none)) else none)))))))))
noncomputable def den (x : X) : Y := d0 x
theorem main_eq (x : X) : evFV Try.prog T 148 la c [.tmp 2] ps rs (ltv (O) c) x = d0 x := by kernel_rfl
theorem ok {J : World → Prop} {G : Nat} : Con Try.prog J G 4 ps rs den := by
  have hT : TblOk Try.prog J G T := (tbl_cons (by intro e he; simp only [List.mem_cons, List.not_mem_nil, or_false] at he; subst he; exact F5.ok) (tbl_cons (by intro e he; simp only [List.mem_cons, List.not_mem_nil, or_false] at he; subst he; exact F9.ok) (tbl_cons (by intro e he; simp only [List.mem_cons, List.not_mem_nil, or_false] at he; subst he; exact F10.ok) (tbl_cons (by intro e he; simp only [List.mem_cons, List.not_mem_nil, or_false] at he; subst he; exact F12.ok) (tbl_cons (by intro e he; simp only [List.mem_cons, List.not_mem_nil, or_false] at he; subst he; exact F13.ok) (tbl_cons (by intro e he; simp only [List.mem_cons, List.not_mem_nil, or_false] at he; subst he; exact F14.ok) (tbl_cons (by intro e he; simp only [List.mem_cons, List.not_mem_nil, or_false] at he; subst he; exact F15.ok) (tbl_cons (by intro e he; simp only [List.mem_cons, List.not_mem_nil, or_false] at he; subst he; exact F16.ok) (tbl_cons (by intro e he; simp only [List.mem_cons, List.not_mem_nil, or_false] at he; subst he; exact F17.ok) (tbl_cons (by intro e he; simp only [List.mem_cons, List.not_mem_nil, or_false] at he; subst he; exact F18.ok) tbl_nil))))))))))
  exact Con.of_eq (fn_ok (fn := Try.f4) (c := c) (nt := 148) (res := [.tmp 2]) (ps := ps) (rs := rs) follows hT (by kernel_rfl) (by kernel_rfl) (by kernel_rfl) (by kernel_rfl) (by kernel_rfl) (by kernel_rfl) la) (fun x => (evFV_eq lt_eq x).trans (main_eq x))
end F4
end Pl
end Go.Proofs.Ytjhcdndmbilogaa
