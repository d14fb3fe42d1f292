/- Facts about the types of the program. Printed by mkfacts.py. -/
import Derived.Test.YtkcjomglcjhkgaaDoorProg
import Derived.Test.YtkcjomglcjhkgaaDoorUwU
import Derived.KernelRfl
set_option linter.unusedVariables false
set_option linter.unusedSimpArgs false
namespace Go.Uw.D
open Go Go.Uw Go.Proofs
theorem mix : Tryd.prog.follows .mixedOrders = true := by kernel_rfl
theorem agg_37 : aggB ((Tryd.prog.underlying 37).getD .invalid) = true := by kernel_rfl
theorem ar_57 : arB Tryd.prog 57 = some (8, 9) := by kernel_rfl
theorem eqg_37 : Tryd.prog.eqGuardType Tryd.prog.depth 37 = false := by kernel_rfl
theorem flat_37 : flatB Tryd.prog 3 37 = some [some Go.IntKind.i64, some Go.IntKind.i64, some Go.IntKind.i64, some Go.IntKind.i64, none, some Go.IntKind.i64, some Go.IntKind.i64, some Go.IntKind.i64] := by kernel_rfl
theorem fld_35_0 : fldB Tryd.prog 35 0 = some 0 := by kernel_rfl
theorem fld_35_1 : fldB Tryd.prog 35 1 = some 1 := by kernel_rfl
theorem fld_37_0 : fldB Tryd.prog 37 0 = some 0 := by kernel_rfl
theorem fld_37_1 : fldB Tryd.prog 37 1 = some 1 := by kernel_rfl
theorem fld_37_2 : fldB Tryd.prog 37 2 = some 2 := by kernel_rfl
theorem fld_37_3 : fldB Tryd.prog 37 3 = some 3 := by kernel_rfl
theorem fld_37_4 : fldB Tryd.prog 37 4 = some 4 := by kernel_rfl
theorem fld_37_5 : fldB Tryd.prog 37 5 = some 5 := by kernel_rfl
theorem fld_37_6 : fldB Tryd.prog 37 6 = some 6 := by kernel_rfl
theorem fld_37_7 : fldB Tryd.prog 37 7 = some 7 := by kernel_rfl
theorem fld_55_0 : fldB Tryd.prog 55 0 = some 0 := by kernel_rfl
theorem fld_55_1 : fldB Tryd.prog 55 1 = some 1 := by kernel_rfl
theorem fld_55_2 : fldB Tryd.prog 55 2 = some 2 := by kernel_rfl
theorem in_3 : intB Tryd.prog 3 = some Go.IntKind.i64 := by kernel_rfl
theorem in_5 : intB Tryd.prog 5 = some Go.IntKind.u8 := by kernel_rfl
theorem pl_37 : placesB Tryd.prog 37 = some [(0, 1), (1, 1), (2, 1), (3, 1), (4, 1), (5, 1), (6, 1), (7, 1)] := by kernel_rfl
theorem pl_55 : placesB Tryd.prog 55 = some [(0, 1), (1, 1), (2, 1)] := by kernel_rfl
theorem sl_22 : slB Tryd.prog 22 = some 37 := by kernel_rfl
theorem sl_33 : slB Tryd.prog 33 = some 5 := by kernel_rfl
theorem sl_49 : slB Tryd.prog 49 = some 55 := by kernel_rfl
theorem sl_58 : slB Tryd.prog 58 = some 53 := by kernel_rfl
theorem sl_63 : slB Tryd.prog 63 = some 3 := by kernel_rfl
theorem sl_69 : slB Tryd.prog 69 = some 9 := by kernel_rfl
theorem ty_22 : tyB Tryd.prog 22 = some (false, 1, 24) := by kernel_rfl
theorem ty_24 : tyB Tryd.prog 24 = some (false, 1, 8) := by kernel_rfl
theorem ty_3 : tyB Tryd.prog 3 = some (false, 1, 8) := by kernel_rfl
theorem ty_32 : tyB Tryd.prog 32 = some (false, 1, 8) := by kernel_rfl
theorem ty_33 : tyB Tryd.prog 33 = some (false, 1, 24) := by kernel_rfl
theorem ty_37 : tyB Tryd.prog 37 = some (true, 8, 64) := by kernel_rfl
theorem ty_4 : tyB Tryd.prog 4 = some (false, 1, 1) := by kernel_rfl
theorem ty_5 : tyB Tryd.prog 5 = some (false, 1, 1) := by kernel_rfl
theorem ty_53 : tyB Tryd.prog 53 = some (false, 1, 8) := by kernel_rfl
theorem ty_55 : tyB Tryd.prog 55 = some (true, 3, 24) := by kernel_rfl
theorem ty_57 : tyB Tryd.prog 57 = some (true, 8, 128) := by kernel_rfl
theorem ty_9 : tyB Tryd.prog 9 = some (false, 1, 16) := by kernel_rfl
theorem us_9 : Tryd.prog.underlying 9 = some .string := by kernel_rfl
theorem z_22 : zeroB Tryd.prog 22 = some [Go.Value.slice none 0 0] := by kernel_rfl
theorem z_24 : zeroB Tryd.prog 24 = some [Go.Value.int Go.IntKind.i64 (Int.ofNat 0)] := by kernel_rfl
theorem z_3 : zeroB Tryd.prog 3 = some [Go.Value.int Go.IntKind.i64 (Int.ofNat 0)] := by kernel_rfl
theorem z_35 : zeroB Tryd.prog 35 = some [Go.Value.pointer none, Go.Value.slice none 0 0] := by kernel_rfl
theorem z_37 : zeroB Tryd.prog 37 = some [Go.Value.int Go.IntKind.i64 (Int.ofNat 0), Go.Value.int Go.IntKind.i64 (Int.ofNat 0), Go.Value.int Go.IntKind.i64 (Int.ofNat 0), Go.Value.int Go.IntKind.i64 (Int.ofNat 0), Go.Value.bool false, Go.Value.int Go.IntKind.i64 (Int.ofNat 0), Go.Value.int Go.IntKind.i64 (Int.ofNat 0), Go.Value.int Go.IntKind.i64 (Int.ofNat 0)] := by kernel_rfl
theorem z_5 : zeroB Tryd.prog 5 = some [Go.Value.int Go.IntKind.u8 (Int.ofNat 0)] := by kernel_rfl
theorem z_53 : zeroB Tryd.prog 53 = some [Go.Value.pointer none] := by kernel_rfl
theorem z_55 : zeroB Tryd.prog 55 = some [Go.Value.pointer none, Go.Value.int Go.IntKind.i64 (Int.ofNat 0), Go.Value.int Go.IntKind.i64 (Int.ofNat 0)] := by kernel_rfl
theorem z_9 : zeroB Tryd.prog 9 = some [Go.Value.string (ByteArray.mk (Array.mk []))] := by kernel_rfl
theorem cb_8 : callB Tryd.prog 8 = true := by kernel_rfl
theorem cb_9 : callB Tryd.prog 9 = true := by kernel_rfl
theorem cb_10 : callB Tryd.prog 10 = true := by kernel_rfl
theorem cb_11 : callB Tryd.prog 11 = true := by kernel_rfl
theorem cb_12 : callB Tryd.prog 12 = true := by kernel_rfl
theorem cb_13 : callB Tryd.prog 13 = true := by kernel_rfl
theorem cb_14 : callB Tryd.prog 14 = true := by kernel_rfl
theorem cb_15 : callB Tryd.prog 15 = true := by kernel_rfl
theorem cb_17 : callB Tryd.prog 17 = true := by kernel_rfl
theorem cb_18 : callB Tryd.prog 18 = true := by kernel_rfl
theorem cb_19 : callB Tryd.prog 19 = true := by kernel_rfl
theorem cb_20 : callB Tryd.prog 20 = true := by kernel_rfl
theorem cb_21 : callB Tryd.prog 21 = true := by kernel_rfl
theorem cb_22 : callB Tryd.prog 22 = true := by kernel_rfl
theorem cb_23 : callB Tryd.prog 23 = true := by kernel_rfl
theorem cb_24 : callB Tryd.prog 24 = true := by kernel_rfl
theorem cb_25 : callB Tryd.prog 25 = true := by kernel_rfl
theorem cb_26 : callB Tryd.prog 26 = true := by kernel_rfl
theorem cb_27 : callB Tryd.prog 27 = true := by kernel_rfl
theorem cb_28 : callB Tryd.prog 28 = true := by kernel_rfl
theorem cb_29 : callB Tryd.prog 29 = true := by kernel_rfl
theorem cb_31 : callB Tryd.prog 31 = true := by kernel_rfl
theorem cb_32 : callB Tryd.prog 32 = true := by kernel_rfl
theorem cb_33 : callB Tryd.prog 33 = true := by kernel_rfl
theorem cb_34 : callB Tryd.prog 34 = true := by kernel_rfl
theorem cb_35 : callB Tryd.prog 35 = true := by kernel_rfl
theorem cb_36 : callB Tryd.prog 36 = true := by kernel_rfl
end Go.Uw.D
