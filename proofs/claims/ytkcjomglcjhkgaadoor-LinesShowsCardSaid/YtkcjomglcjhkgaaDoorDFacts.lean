/- Facts about the types of the program. Printed by mkfacts.py. -/
import Derived.Test.YtkcjomglcjhkgaaDoorProg
import Derived.Test.YtkcjomglcjhkgaaDoorUwV
import Derived.KernelRfl
set_option linter.unusedVariables false
set_option linter.unusedSimpArgs false
namespace Go.Uw.D
open Go Go.Uw Go.Proofs
theorem mix : Tryd.prog.follows .mixedOrders = true := by kernel_rfl
theorem agg_37 : aggB ((Tryd.prog.underlying 37).getD .invalid) = true := by kernel_rfl
theorem ar_104 : arB Tryd.prog 104 = some (20, 88) := by kernel_rfl
theorem ar_106 : arB Tryd.prog 106 = some (65, 5) := by kernel_rfl
theorem ar_114 : arB Tryd.prog 114 = some (256, 5) := by kernel_rfl
theorem ar_117 : arB Tryd.prog 117 = some (16, 116) := by kernel_rfl
theorem ar_120 : arB Tryd.prog 120 = some (32, 5) := by kernel_rfl
theorem ar_121 : arB Tryd.prog 121 = some (64, 5) := by kernel_rfl
theorem ar_57 : arB Tryd.prog 57 = some (8, 9) := by kernel_rfl
theorem ar_87 : arB Tryd.prog 87 = some (24, 5) := by kernel_rfl
theorem eqg_37 : Tryd.prog.eqGuardType Tryd.prog.depth 37 = false := by kernel_rfl
theorem flat_37 : flatB Tryd.prog 3 37 = some [some Go.IntKind.i64, some Go.IntKind.i64, some Go.IntKind.i64, some Go.IntKind.i64, none, some Go.IntKind.i64, some Go.IntKind.i64, some Go.IntKind.i64] := by kernel_rfl
theorem fld_116_0 : fldB Tryd.prog 116 0 = some 0 := by kernel_rfl
theorem fld_116_1 : fldB Tryd.prog 116 1 = some 1 := by kernel_rfl
theorem fld_35_0 : fldB Tryd.prog 35 0 = some 0 := by kernel_rfl
theorem fld_35_1 : fldB Tryd.prog 35 1 = some 1 := by kernel_rfl
theorem fld_37_0 : fldB Tryd.prog 37 0 = some 0 := by kernel_rfl
theorem fld_37_1 : fldB Tryd.prog 37 1 = some 1 := by kernel_rfl
theorem fld_37_2 : fldB Tryd.prog 37 2 = some 2 := by kernel_rfl
theorem fld_37_3 : fldB Tryd.prog 37 3 = some 3 := by kernel_rfl
theorem fld_37_4 : fldB Tryd.prog 37 4 = some 4 := by kernel_rfl
theorem fld_37_5 : fldB Tryd.prog 37 5 = some 5 := by kernel_rfl
theorem fld_37_6 : fldB Tryd.prog 37 6 = some 6 := by kernel_rfl
theorem fld_37_7 : fldB Tryd.prog 37 7 = some 7 := by kernel_rfl
theorem fld_55_0 : fldB Tryd.prog 55 0 = some 0 := by kernel_rfl
theorem fld_55_1 : fldB Tryd.prog 55 1 = some 1 := by kernel_rfl
theorem fld_55_2 : fldB Tryd.prog 55 2 = some 2 := by kernel_rfl
theorem in_105 : intB Tryd.prog 105 = some Go.IntKind.u32 := by kernel_rfl
theorem in_2 : intB Tryd.prog 2 = some Go.IntKind.i64 := by kernel_rfl
theorem in_21 : intB Tryd.prog 21 = some Go.IntKind.i32 := by kernel_rfl
theorem in_3 : intB Tryd.prog 3 = some Go.IntKind.i64 := by kernel_rfl
theorem in_32 : intB Tryd.prog 32 = none := by kernel_rfl
theorem in_33 : intB Tryd.prog 33 = none := by kernel_rfl
theorem in_5 : intB Tryd.prog 5 = some Go.IntKind.u8 := by kernel_rfl
theorem in_73 : intB Tryd.prog 73 = none := by kernel_rfl
theorem in_88 : intB Tryd.prog 88 = some Go.IntKind.u64 := by kernel_rfl
theorem in_9 : intB Tryd.prog 9 = none := by kernel_rfl
theorem in_97 : intB Tryd.prog 97 = some Go.IntKind.u64 := by kernel_rfl
theorem pl_100 : placesB Tryd.prog 100 = some [(0, 1), (1, 1), (2, 1)] := by kernel_rfl
theorem pl_104 : placesB Tryd.prog 104 = none := by kernel_rfl
theorem pl_112 : placesB Tryd.prog 112 = some [(0, 1)] := by kernel_rfl
theorem pl_116 : placesB Tryd.prog 116 = some [(0, 1), (1, 1)] := by kernel_rfl
theorem pl_117 : placesB Tryd.prog 117 = none := by kernel_rfl
theorem pl_120 : placesB Tryd.prog 120 = none := by kernel_rfl
theorem pl_121 : placesB Tryd.prog 121 = none := by kernel_rfl
theorem pl_37 : placesB Tryd.prog 37 = some [(0, 1), (1, 1), (2, 1), (3, 1), (4, 1), (5, 1), (6, 1), (7, 1)] := by kernel_rfl
theorem pl_55 : placesB Tryd.prog 55 = some [(0, 1), (1, 1), (2, 1)] := by kernel_rfl
theorem pl_57 : placesB Tryd.prog 57 = none := by kernel_rfl
theorem sl_106 : slB Tryd.prog 106 = none := by kernel_rfl
theorem sl_22 : slB Tryd.prog 22 = some 37 := by kernel_rfl
theorem sl_33 : slB Tryd.prog 33 = some 5 := by kernel_rfl
theorem sl_49 : slB Tryd.prog 49 = some 55 := by kernel_rfl
theorem sl_58 : slB Tryd.prog 58 = some 53 := by kernel_rfl
theorem sl_63 : slB Tryd.prog 63 = some 3 := by kernel_rfl
theorem sl_69 : slB Tryd.prog 69 = some 9 := by kernel_rfl
theorem sl_87 : slB Tryd.prog 87 = none := by kernel_rfl
theorem sl_9 : slB Tryd.prog 9 = none := by kernel_rfl
theorem ty_104 : tyB Tryd.prog 104 = some (true, 20, 160) := by kernel_rfl
theorem ty_116 : tyB Tryd.prog 116 = some (true, 2, 2) := by kernel_rfl
theorem ty_117 : tyB Tryd.prog 117 = some (true, 32, 32) := by kernel_rfl
theorem ty_120 : tyB Tryd.prog 120 = some (true, 32, 32) := by kernel_rfl
theorem ty_121 : tyB Tryd.prog 121 = some (true, 64, 64) := by kernel_rfl
theorem ty_22 : tyB Tryd.prog 22 = some (false, 1, 24) := by kernel_rfl
theorem ty_24 : tyB Tryd.prog 24 = some (false, 1, 8) := by kernel_rfl
theorem ty_3 : tyB Tryd.prog 3 = some (false, 1, 8) := by kernel_rfl
theorem ty_32 : tyB Tryd.prog 32 = some (false, 1, 8) := by kernel_rfl
theorem ty_33 : tyB Tryd.prog 33 = some (false, 1, 24) := by kernel_rfl
theorem ty_37 : tyB Tryd.prog 37 = some (true, 8, 64) := by kernel_rfl
theorem ty_4 : tyB Tryd.prog 4 = some (false, 1, 1) := by kernel_rfl
theorem ty_40 : tyB Tryd.prog 40 = some (false, 1, 16) := by kernel_rfl
theorem ty_5 : tyB Tryd.prog 5 = some (false, 1, 1) := by kernel_rfl
theorem ty_53 : tyB Tryd.prog 53 = some (false, 1, 8) := by kernel_rfl
theorem ty_55 : tyB Tryd.prog 55 = some (true, 3, 24) := by kernel_rfl
theorem ty_57 : tyB Tryd.prog 57 = some (true, 8, 128) := by kernel_rfl
theorem ty_88 : tyB Tryd.prog 88 = some (false, 1, 8) := by kernel_rfl
theorem ty_9 : tyB Tryd.prog 9 = some (false, 1, 16) := by kernel_rfl
theorem u8_5 : Tryd.prog.underlying 5 = some (.int .u8) := by kernel_rfl
theorem us_9 : Tryd.prog.underlying 9 = some .string := by kernel_rfl
theorem z_100 : zeroB Tryd.prog 100 = some [Go.Value.string (ByteArray.mk (Array.mk [])), Go.Value.string (ByteArray.mk (Array.mk [])), Go.Value.nilIface] := by kernel_rfl
theorem z_104 : zeroB Tryd.prog 104 = some [Go.Value.int Go.IntKind.u64 (Int.ofNat 0), Go.Value.int Go.IntKind.u64 (Int.ofNat 0), Go.Value.int Go.IntKind.u64 (Int.ofNat 0), Go.Value.int Go.IntKind.u64 (Int.ofNat 0), Go.Value.int Go.IntKind.u64 (Int.ofNat 0), Go.Value.int Go.IntKind.u64 (Int.ofNat 0), Go.Value.int Go.IntKind.u64 (Int.ofNat 0), Go.Value.int Go.IntKind.u64 (Int.ofNat 0), Go.Value.int Go.IntKind.u64 (Int.ofNat 0), Go.Value.int Go.IntKind.u64 (Int.ofNat 0), Go.Value.int Go.IntKind.u64 (Int.ofNat 0), Go.Value.int Go.IntKind.u64 (Int.ofNat 0), Go.Value.int Go.IntKind.u64 (Int.ofNat 0), Go.Value.int Go.IntKind.u64 (Int.ofNat 0), Go.Value.int Go.IntKind.u64 (Int.ofNat 0), Go.Value.int Go.IntKind.u64 (Int.ofNat 0), Go.Value.int Go.IntKind.u64 (Int.ofNat 0), Go.Value.int Go.IntKind.u64 (Int.ofNat 0), Go.Value.int Go.IntKind.u64 (Int.ofNat 0), Go.Value.int Go.IntKind.u64 (Int.ofNat 0)] := by kernel_rfl
theorem z_112 : zeroB Tryd.prog 112 = some [Go.Value.string (ByteArray.mk (Array.mk []))] := by kernel_rfl
theorem z_116 : zeroB Tryd.prog 116 = some [Go.Value.int Go.IntKind.u8 (Int.ofNat 0), Go.Value.int Go.IntKind.u8 (Int.ofNat 0)] := by kernel_rfl
theorem z_117 : zeroB Tryd.prog 117 = some [Go.Value.int Go.IntKind.u8 (Int.ofNat 0), Go.Value.int Go.IntKind.u8 (Int.ofNat 0), Go.Value.int Go.IntKind.u8 (Int.ofNat 0), Go.Value.int Go.IntKind.u8 (Int.ofNat 0), Go.Value.int Go.IntKind.u8 (Int.ofNat 0), Go.Value.int Go.IntKind.u8 (Int.ofNat 0), Go.Value.int Go.IntKind.u8 (Int.ofNat 0), Go.Value.int Go.IntKind.u8 (Int.ofNat 0), Go.Value.int Go.IntKind.u8 (Int.ofNat 0), Go.Value.int Go.IntKind.u8 (Int.ofNat 0), Go.Value.int Go.IntKind.u8 (Int.ofNat 0), Go.Value.int Go.IntKind.u8 (Int.ofNat 0), Go.Value.int Go.IntKind.u8 (Int.ofNat 0), Go.Value.int Go.IntKind.u8 (Int.ofNat 0), Go.Value.int Go.IntKind.u8 (Int.ofNat 0), Go.Value.int Go.IntKind.u8 (Int.ofNat 0), Go.Value.int Go.IntKind.u8 (Int.ofNat 0), Go.Value.int Go.IntKind.u8 (Int.ofNat 0), Go.Value.int Go.IntKind.u8 (Int.ofNat 0), Go.Value.int Go.IntKind.u8 (Int.ofNat 0), Go.Value.int Go.IntKind.u8 (Int.ofNat 0), Go.Value.int Go.IntKind.u8 (Int.ofNat 0), Go.Value.int Go.IntKind.u8 (Int.ofNat 0), Go.Value.int Go.IntKind.u8 (Int.ofNat 0), Go.Value.int Go.IntKind.u8 (Int.ofNat 0), Go.Value.int Go.IntKind.u8 (Int.ofNat 0), Go.Value.int Go.IntKind.u8 (Int.ofNat 0), Go.Value.int Go.IntKind.u8 (Int.ofNat 0), Go.Value.int Go.IntKind.u8 (Int.ofNat 0), Go.Value.int Go.IntKind.u8 (Int.ofNat 0), Go.Value.int Go.IntKind.u8 (Int.ofNat 0), Go.Value.int Go.IntKind.u8 (Int.ofNat 0)] := by kernel_rfl
theorem z_120 : zeroB Tryd.prog 120 = some [Go.Value.int Go.IntKind.u8 (Int.ofNat 0), Go.Value.int Go.IntKind.u8 (Int.ofNat 0), Go.Value.int Go.IntKind.u8 (Int.ofNat 0), Go.Value.int Go.IntKind.u8 (Int.ofNat 0), Go.Value.int Go.IntKind.u8 (Int.ofNat 0), Go.Value.int Go.IntKind.u8 (Int.ofNat 0), Go.Value.int Go.IntKind.u8 (Int.ofNat 0), Go.Value.int Go.IntKind.u8 (Int.ofNat 0), Go.Value.int Go.IntKind.u8 (Int.ofNat 0), Go.Value.int Go.IntKind.u8 (Int.ofNat 0), Go.Value.int Go.IntKind.u8 (Int.ofNat 0), Go.Value.int Go.IntKind.u8 (Int.ofNat 0), Go.Value.int Go.IntKind.u8 (Int.ofNat 0), Go.Value.int Go.IntKind.u8 (Int.ofNat 0), Go.Value.int Go.IntKind.u8 (Int.ofNat 0), Go.Value.int Go.IntKind.u8 (Int.ofNat 0), Go.Value.int Go.IntKind.u8 (Int.ofNat 0), Go.Value.int Go.IntKind.u8 (Int.ofNat 0), Go.Value.int Go.IntKind.u8 (Int.ofNat 0), Go.Value.int Go.IntKind.u8 (Int.ofNat 0), Go.Value.int Go.IntKind.u8 (Int.ofNat 0), Go.Value.int Go.IntKind.u8 (Int.ofNat 0), Go.Value.int Go.IntKind.u8 (Int.ofNat 0), Go.Value.int Go.IntKind.u8 (Int.ofNat 0), Go.Value.int Go.IntKind.u8 (Int.ofNat 0), Go.Value.int Go.IntKind.u8 (Int.ofNat 0), Go.Value.int Go.IntKind.u8 (Int.ofNat 0), Go.Value.int Go.IntKind.u8 (Int.ofNat 0), Go.Value.int Go.IntKind.u8 (Int.ofNat 0), Go.Value.int Go.IntKind.u8 (Int.ofNat 0), Go.Value.int Go.IntKind.u8 (Int.ofNat 0), Go.Value.int Go.IntKind.u8 (Int.ofNat 0)] := by kernel_rfl
theorem z_22 : zeroB Tryd.prog 22 = some [Go.Value.slice none 0 0] := by kernel_rfl
theorem z_24 : zeroB Tryd.prog 24 = some [Go.Value.int Go.IntKind.i64 (Int.ofNat 0)] := by kernel_rfl
theorem z_3 : zeroB Tryd.prog 3 = some [Go.Value.int Go.IntKind.i64 (Int.ofNat 0)] := by kernel_rfl
theorem z_35 : zeroB Tryd.prog 35 = some [Go.Value.pointer none, Go.Value.slice none 0 0] := by kernel_rfl
theorem z_37 : zeroB Tryd.prog 37 = some [Go.Value.int Go.IntKind.i64 (Int.ofNat 0), Go.Value.int Go.IntKind.i64 (Int.ofNat 0), Go.Value.int Go.IntKind.i64 (Int.ofNat 0), Go.Value.int Go.IntKind.i64 (Int.ofNat 0), Go.Value.bool false, Go.Value.int Go.IntKind.i64 (Int.ofNat 0), Go.Value.int Go.IntKind.i64 (Int.ofNat 0), Go.Value.int Go.IntKind.i64 (Int.ofNat 0)] := by kernel_rfl
theorem z_5 : zeroB Tryd.prog 5 = some [Go.Value.int Go.IntKind.u8 (Int.ofNat 0)] := by kernel_rfl
theorem z_53 : zeroB Tryd.prog 53 = some [Go.Value.pointer none] := by kernel_rfl
theorem z_55 : zeroB Tryd.prog 55 = some [Go.Value.pointer none, Go.Value.int Go.IntKind.i64 (Int.ofNat 0), Go.Value.int Go.IntKind.i64 (Int.ofNat 0)] := by kernel_rfl
theorem z_57 : zeroB Tryd.prog 57 = some [Go.Value.string (ByteArray.mk (Array.mk [])), Go.Value.string (ByteArray.mk (Array.mk [])), Go.Value.string (ByteArray.mk (Array.mk [])), Go.Value.string (ByteArray.mk (Array.mk [])), Go.Value.string (ByteArray.mk (Array.mk [])), Go.Value.string (ByteArray.mk (Array.mk [])), Go.Value.string (ByteArray.mk (Array.mk [])), Go.Value.string (ByteArray.mk (Array.mk []))] := by kernel_rfl
theorem z_87 : zeroB Tryd.prog 87 = some [Go.Value.int Go.IntKind.u8 (Int.ofNat 0), Go.Value.int Go.IntKind.u8 (Int.ofNat 0), Go.Value.int Go.IntKind.u8 (Int.ofNat 0), Go.Value.int Go.IntKind.u8 (Int.ofNat 0), Go.Value.int Go.IntKind.u8 (Int.ofNat 0), Go.Value.int Go.IntKind.u8 (Int.ofNat 0), Go.Value.int Go.IntKind.u8 (Int.ofNat 0), Go.Value.int Go.IntKind.u8 (Int.ofNat 0), Go.Value.int Go.IntKind.u8 (Int.ofNat 0), Go.Value.int Go.IntKind.u8 (Int.ofNat 0), Go.Value.int Go.IntKind.u8 (Int.ofNat 0), Go.Value.int Go.IntKind.u8 (Int.ofNat 0), Go.Value.int Go.IntKind.u8 (Int.ofNat 0), Go.Value.int Go.IntKind.u8 (Int.ofNat 0), Go.Value.int Go.IntKind.u8 (Int.ofNat 0), Go.Value.int Go.IntKind.u8 (Int.ofNat 0), Go.Value.int Go.IntKind.u8 (Int.ofNat 0), Go.Value.int Go.IntKind.u8 (Int.ofNat 0), Go.Value.int Go.IntKind.u8 (Int.ofNat 0), Go.Value.int Go.IntKind.u8 (Int.ofNat 0), Go.Value.int Go.IntKind.u8 (Int.ofNat 0), Go.Value.int Go.IntKind.u8 (Int.ofNat 0), Go.Value.int Go.IntKind.u8 (Int.ofNat 0), Go.Value.int Go.IntKind.u8 (Int.ofNat 0)] := by kernel_rfl
theorem z_9 : zeroB Tryd.prog 9 = some [Go.Value.string (ByteArray.mk (Array.mk []))] := by kernel_rfl
theorem cb_2 : callB Tryd.prog 2 = true := by kernel_rfl
theorem cb_3 : callB Tryd.prog 3 = true := by kernel_rfl
theorem cb_4 : callB Tryd.prog 4 = true := by kernel_rfl
theorem cb_5 : callB Tryd.prog 5 = true := by kernel_rfl
theorem cb_6 : callB Tryd.prog 6 = true := by kernel_rfl
theorem cb_7 : callB Tryd.prog 7 = true := by kernel_rfl
theorem cb_8 : callB Tryd.prog 8 = true := by kernel_rfl
theorem cb_9 : callB Tryd.prog 9 = true := by kernel_rfl
theorem cb_10 : callB Tryd.prog 10 = true := by kernel_rfl
theorem cb_11 : callB Tryd.prog 11 = true := by kernel_rfl
theorem cb_12 : callB Tryd.prog 12 = true := by kernel_rfl
theorem cb_13 : callB Tryd.prog 13 = true := by kernel_rfl
theorem cb_14 : callB Tryd.prog 14 = true := by kernel_rfl
theorem cb_15 : callB Tryd.prog 15 = true := by kernel_rfl
theorem cb_16 : callB Tryd.prog 16 = true := by kernel_rfl
theorem cb_17 : callB Tryd.prog 17 = true := by kernel_rfl
theorem cb_18 : callB Tryd.prog 18 = true := by kernel_rfl
theorem cb_19 : callB Tryd.prog 19 = true := by kernel_rfl
theorem cb_20 : callB Tryd.prog 20 = true := by kernel_rfl
theorem cb_21 : callB Tryd.prog 21 = true := by kernel_rfl
theorem cb_22 : callB Tryd.prog 22 = true := by kernel_rfl
theorem cb_23 : callB Tryd.prog 23 = true := by kernel_rfl
theorem cb_24 : callB Tryd.prog 24 = true := by kernel_rfl
theorem cb_25 : callB Tryd.prog 25 = true := by kernel_rfl
theorem cb_26 : callB Tryd.prog 26 = true := by kernel_rfl
theorem cb_27 : callB Tryd.prog 27 = true := by kernel_rfl
theorem cb_28 : callB Tryd.prog 28 = true := by kernel_rfl
theorem cb_29 : callB Tryd.prog 29 = true := by kernel_rfl
theorem cb_30 : callB Tryd.prog 30 = true := by kernel_rfl
theorem cb_31 : callB Tryd.prog 31 = true := by kernel_rfl
theorem cb_32 : callB Tryd.prog 32 = true := by kernel_rfl
theorem cb_33 : callB Tryd.prog 33 = true := by kernel_rfl
theorem cb_34 : callB Tryd.prog 34 = true := by kernel_rfl
theorem cb_35 : callB Tryd.prog 35 = true := by kernel_rfl
theorem cb_36 : callB Tryd.prog 36 = true := by kernel_rfl
theorem cb_38 : callB Tryd.prog 38 = true := by kernel_rfl
theorem cb_39 : callB Tryd.prog 39 = true := by kernel_rfl
theorem cb_40 : callB Tryd.prog 40 = true := by kernel_rfl
theorem cb_41 : callB Tryd.prog 41 = true := by kernel_rfl
theorem cb_42 : callB Tryd.prog 42 = true := by kernel_rfl
theorem cb_43 : callB Tryd.prog 43 = true := by kernel_rfl
theorem cb_44 : callB Tryd.prog 44 = true := by kernel_rfl
theorem cb_46 : callB Tryd.prog 46 = true := by kernel_rfl
theorem cb_47 : callB Tryd.prog 47 = true := by kernel_rfl
theorem cb_48 : callB Tryd.prog 48 = true := by kernel_rfl
theorem cb_49 : callB Tryd.prog 49 = true := by kernel_rfl
theorem cb_50 : callB Tryd.prog 50 = true := by kernel_rfl
theorem cb_51 : callB Tryd.prog 51 = true := by kernel_rfl
theorem cb_52 : callB Tryd.prog 52 = true := by kernel_rfl
theorem cb_53 : callB Tryd.prog 53 = true := by kernel_rfl
theorem cb_54 : callB Tryd.prog 54 = true := by kernel_rfl
theorem cb_55 : callB Tryd.prog 55 = true := by kernel_rfl
theorem cb_56 : callB Tryd.prog 56 = true := by kernel_rfl
theorem cb_57 : callB Tryd.prog 57 = true := by kernel_rfl
theorem cb_58 : callB Tryd.prog 58 = true := by kernel_rfl
theorem cb_59 : callB Tryd.prog 59 = true := by kernel_rfl
theorem cb_60 : callB Tryd.prog 60 = true := by kernel_rfl
theorem cb_62 : callB Tryd.prog 62 = true := by kernel_rfl
theorem cb_63 : callB Tryd.prog 63 = true := by kernel_rfl
theorem cb_64 : callB Tryd.prog 64 = true := by kernel_rfl
theorem cb_65 : callB Tryd.prog 65 = true := by kernel_rfl
theorem cb_66 : callB Tryd.prog 66 = true := by kernel_rfl
theorem cb_67 : callB Tryd.prog 67 = true := by kernel_rfl
theorem cb_68 : callB Tryd.prog 68 = true := by kernel_rfl
theorem cb_69 : callB Tryd.prog 69 = true := by kernel_rfl
theorem cb_70 : callB Tryd.prog 70 = true := by kernel_rfl
theorem cb_71 : callB Tryd.prog 71 = true := by kernel_rfl
theorem cb_73 : callB Tryd.prog 73 = true := by kernel_rfl
theorem cb_74 : callB Tryd.prog 74 = true := by kernel_rfl
theorem cb_75 : callB Tryd.prog 75 = true := by kernel_rfl
theorem cb_76 : callB Tryd.prog 76 = true := by kernel_rfl
theorem cb_77 : callB Tryd.prog 77 = true := by kernel_rfl
theorem cb_78 : callB Tryd.prog 78 = true := by kernel_rfl
theorem cb_79 : callB Tryd.prog 79 = true := by kernel_rfl
theorem cb_111 : callB Tryd.prog 111 = true := by kernel_rfl
end Go.Uw.D
