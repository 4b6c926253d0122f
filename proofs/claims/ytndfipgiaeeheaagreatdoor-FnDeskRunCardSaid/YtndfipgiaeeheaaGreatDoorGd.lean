/- TL: parts TlFactsY, FnsY1, FnsY2, TlRow, FnsY12, FnsY7, FnsY8, FnsY9, FnsYD, FnsY15, FnsY16, FnsYO1. -/
import Derived.Test.YtndfipgiaeeheaaGreatDoorGc
import Derived.Test.YtndfipgiaeeheaaGreatDoorChecked
/- Facts about the types of this seat. -/
namespace TL
open Go Go.Proofs
@[simp] theorem sz_1 : sz Tryz.prog 1 = some 1 := by kernel_rfl
@[simp] theorem bytes_1 : bytes Tryz.prog 1 = some 8 := by kernel_rfl
@[simp] theorem szz_1 : szz Tryz.prog 1 = some 1 := by kernel_rfl
@[simp] theorem isAg_1 : isAg Tryz.prog 1 = some false := by kernel_rfl
@[simp] theorem zeroC_1 : zeroC Tryz.prog 1 = some [.v .any] := by kernel_rfl
@[simp] theorem sz_2 : sz Tryz.prog 2 = some 1 := by kernel_rfl
@[simp] theorem bytes_2 : bytes Tryz.prog 2 = some 8 := by kernel_rfl
@[simp] theorem szz_2 : szz Tryz.prog 2 = some 1 := by kernel_rfl
@[simp] theorem isAg_2 : isAg Tryz.prog 2 = some false := by kernel_rfl
@[simp] theorem intK_2 : intK Tryz.prog 2 = some .i64 := by kernel_rfl
@[simp] theorem zeroC_2 : zeroC Tryz.prog 2 = some [.v (.int .i64 0)] := by kernel_rfl
@[simp] theorem sz_3 : sz Tryz.prog 3 = some 1 := by kernel_rfl
@[simp] theorem bytes_3 : bytes Tryz.prog 3 = some 8 := by kernel_rfl
@[simp] theorem szz_3 : szz Tryz.prog 3 = some 1 := by kernel_rfl
@[simp] theorem isAg_3 : isAg Tryz.prog 3 = some false := by kernel_rfl
@[simp] theorem intK_3 : intK Tryz.prog 3 = some .i64 := by kernel_rfl
@[simp] theorem zeroC_3 : zeroC Tryz.prog 3 = some [.v (.int .i64 0)] := by kernel_rfl
@[simp] theorem sz_4 : sz Tryz.prog 4 = some 1 := by kernel_rfl
@[simp] theorem bytes_4 : bytes Tryz.prog 4 = some 1 := by kernel_rfl
@[simp] theorem szz_4 : szz Tryz.prog 4 = some 1 := by kernel_rfl
@[simp] theorem isAg_4 : isAg Tryz.prog 4 = some false := by kernel_rfl
@[simp] theorem isBool_4 : isBool Tryz.prog 4 = some true := by kernel_rfl
@[simp] theorem zeroC_4 : zeroC Tryz.prog 4 = some [.v (.bool false)] := by kernel_rfl
@[simp] theorem sz_5 : sz Tryz.prog 5 = some 1 := by kernel_rfl
@[simp] theorem bytes_5 : bytes Tryz.prog 5 = some 1 := by kernel_rfl
@[simp] theorem szz_5 : szz Tryz.prog 5 = some 1 := by kernel_rfl
@[simp] theorem isAg_5 : isAg Tryz.prog 5 = some false := by kernel_rfl
@[simp] theorem intK_5 : intK Tryz.prog 5 = some .u8 := by kernel_rfl
@[simp] theorem zeroC_5 : zeroC Tryz.prog 5 = some [.v (.int .u8 0)] := by kernel_rfl
@[simp] theorem sz_9 : sz Tryz.prog 9 = some 1 := by kernel_rfl
@[simp] theorem bytes_9 : bytes Tryz.prog 9 = some 16 := by kernel_rfl
@[simp] theorem szz_9 : szz Tryz.prog 9 = some 1 := by kernel_rfl
@[simp] theorem isAg_9 : isAg Tryz.prog 9 = some false := by kernel_rfl
@[simp] theorem isStr_9 : isStr Tryz.prog 9 = some true := by kernel_rfl
@[simp] theorem zeroC_9 : zeroC Tryz.prog 9 = some [.v (.str [])] := by kernel_rfl
@[simp] theorem sz_12 : sz Tryz.prog 12 = some 1 := by kernel_rfl
@[simp] theorem bytes_12 : bytes Tryz.prog 12 = some 8 := by kernel_rfl
@[simp] theorem szz_12 : szz Tryz.prog 12 = some 1 := by kernel_rfl
@[simp] theorem isAg_12 : isAg Tryz.prog 12 = some false := by kernel_rfl
@[simp] theorem intK_12 : intK Tryz.prog 12 = some .u64 := by kernel_rfl
@[simp] theorem zeroC_12 : zeroC Tryz.prog 12 = some [.v (.int .u64 0)] := by kernel_rfl
@[simp] theorem sz_21 : sz Tryz.prog 21 = some 1 := by kernel_rfl
@[simp] theorem bytes_21 : bytes Tryz.prog 21 = some 4 := by kernel_rfl
@[simp] theorem szz_21 : szz Tryz.prog 21 = some 1 := by kernel_rfl
@[simp] theorem isAg_21 : isAg Tryz.prog 21 = some false := by kernel_rfl
@[simp] theorem intK_21 : intK Tryz.prog 21 = some .i32 := by kernel_rfl
@[simp] theorem zeroC_21 : zeroC Tryz.prog 21 = some [.v (.int .i32 0)] := by kernel_rfl
@[simp] theorem sz_22 : sz Tryz.prog 22 = some 1 := by kernel_rfl
@[simp] theorem bytes_22 : bytes Tryz.prog 22 = some 24 := by kernel_rfl
@[simp] theorem szz_22 : szz Tryz.prog 22 = some 1 := by kernel_rfl
@[simp] theorem isAg_22 : isAg Tryz.prog 22 = some false := by kernel_rfl
@[simp] theorem elT_22 : elT Tryz.prog 22 = some 5 := by kernel_rfl
@[simp] theorem isStr_22 : isStr Tryz.prog 22 = some false := by kernel_rfl
@[simp] theorem zeroC_22 : zeroC Tryz.prog 22 = some [.nil] := by kernel_rfl
@[simp] theorem sz_23 : sz Tryz.prog 23 = some 1 := by kernel_rfl
@[simp] theorem bytes_23 : bytes Tryz.prog 23 = some 24 := by kernel_rfl
@[simp] theorem szz_23 : szz Tryz.prog 23 = some 1 := by kernel_rfl
@[simp] theorem isAg_23 : isAg Tryz.prog 23 = some false := by kernel_rfl
@[simp] theorem elT_23 : elT Tryz.prog 23 = some 53 := by kernel_rfl
@[simp] theorem isStr_23 : isStr Tryz.prog 23 = some false := by kernel_rfl
@[simp] theorem zeroC_23 : zeroC Tryz.prog 23 = some [.nil] := by kernel_rfl
@[simp] theorem sz_24 : sz Tryz.prog 24 = some 2 := by kernel_rfl
@[simp] theorem bytes_24 : bytes Tryz.prog 24 = some 32 := by kernel_rfl
@[simp] theorem szz_24 : szz Tryz.prog 24 = some 2 := by kernel_rfl
@[simp] theorem isAg_24 : isAg Tryz.prog 24 = some true := by kernel_rfl
@[simp] theorem zeroC_24 : zeroC Tryz.prog 24 = some [.v (.int .i64 0), .nil] := by kernel_rfl
@[simp] theorem fieldsOk_24 : fieldsOk Tryz.prog 24 = true := by kernel_rfl
@[simp] theorem fo_24_0 : fo Tryz.prog 24 0 = some 0 := by kernel_rfl
@[simp] theorem fld_24_0 : fld Tryz.prog 24 0 = some (3, 0) := by kernel_rfl
@[simp] theorem fsz_24_0 : fsz Tryz.prog 24 0 = some 1 := by kernel_rfl
@[simp] theorem fo_24_1 : fo Tryz.prog 24 1 = some 1 := by kernel_rfl
@[simp] theorem fld_24_1 : fld Tryz.prog 24 1 = some (23, 1) := by kernel_rfl
@[simp] theorem fsz_24_1 : fsz Tryz.prog 24 1 = some 1 := by kernel_rfl
@[simp] theorem sz_25 : sz Tryz.prog 25 = some 2 := by kernel_rfl
@[simp] theorem bytes_25 : bytes Tryz.prog 25 = some 32 := by kernel_rfl
@[simp] theorem szz_25 : szz Tryz.prog 25 = some 2 := by kernel_rfl
@[simp] theorem isAg_25 : isAg Tryz.prog 25 = some true := by kernel_rfl
@[simp] theorem zeroC_25 : zeroC Tryz.prog 25 = some [.v (.int .i64 0), .nil] := by kernel_rfl
@[simp] theorem fieldsOk_25 : fieldsOk Tryz.prog 25 = true := by kernel_rfl
@[simp] theorem fo_25_0 : fo Tryz.prog 25 0 = some 0 := by kernel_rfl
@[simp] theorem fld_25_0 : fld Tryz.prog 25 0 = some (3, 0) := by kernel_rfl
@[simp] theorem fsz_25_0 : fsz Tryz.prog 25 0 = some 1 := by kernel_rfl
@[simp] theorem fo_25_1 : fo Tryz.prog 25 1 = some 1 := by kernel_rfl
@[simp] theorem fld_25_1 : fld Tryz.prog 25 1 = some (23, 1) := by kernel_rfl
@[simp] theorem fsz_25_1 : fsz Tryz.prog 25 1 = some 1 := by kernel_rfl
@[simp] theorem sz_26 : sz Tryz.prog 26 = some 1 := by kernel_rfl
@[simp] theorem bytes_26 : bytes Tryz.prog 26 = some 24 := by kernel_rfl
@[simp] theorem szz_26 : szz Tryz.prog 26 = some 1 := by kernel_rfl
@[simp] theorem isAg_26 : isAg Tryz.prog 26 = some false := by kernel_rfl
@[simp] theorem elT_26 : elT Tryz.prog 26 = some 25 := by kernel_rfl
@[simp] theorem isStr_26 : isStr Tryz.prog 26 = some false := by kernel_rfl
@[simp] theorem zeroC_26 : zeroC Tryz.prog 26 = some [.nil] := by kernel_rfl
@[simp] theorem sz_27 : sz Tryz.prog 27 = some 3 := by kernel_rfl
@[simp] theorem bytes_27 : bytes Tryz.prog 27 = some 56 := by kernel_rfl
@[simp] theorem szz_27 : szz Tryz.prog 27 = some 3 := by kernel_rfl
@[simp] theorem isAg_27 : isAg Tryz.prog 27 = some true := by kernel_rfl
@[simp] theorem zeroC_27 : zeroC Tryz.prog 27 = some [.v (.int .i64 0), .nil, .nil] := by kernel_rfl
@[simp] theorem fieldsOk_27 : fieldsOk Tryz.prog 27 = true := by kernel_rfl
@[simp] theorem fo_27_0 : fo Tryz.prog 27 0 = some 0 := by kernel_rfl
@[simp] theorem fld_27_0 : fld Tryz.prog 27 0 = some (25, 0) := by kernel_rfl
@[simp] theorem fsz_27_0 : fsz Tryz.prog 27 0 = some 2 := by kernel_rfl
@[simp] theorem fo_27_1 : fo Tryz.prog 27 1 = some 2 := by kernel_rfl
@[simp] theorem fld_27_1 : fld Tryz.prog 27 1 = some (26, 2) := by kernel_rfl
@[simp] theorem fsz_27_1 : fsz Tryz.prog 27 1 = some 1 := by kernel_rfl
@[simp] theorem sz_28 : sz Tryz.prog 28 = some 3 := by kernel_rfl
@[simp] theorem bytes_28 : bytes Tryz.prog 28 = some 56 := by kernel_rfl
@[simp] theorem szz_28 : szz Tryz.prog 28 = some 3 := by kernel_rfl
@[simp] theorem isAg_28 : isAg Tryz.prog 28 = some true := by kernel_rfl
@[simp] theorem zeroC_28 : zeroC Tryz.prog 28 = some [.v (.int .i64 0), .nil, .nil] := by kernel_rfl
@[simp] theorem fieldsOk_28 : fieldsOk Tryz.prog 28 = true := by kernel_rfl
@[simp] theorem fo_28_0 : fo Tryz.prog 28 0 = some 0 := by kernel_rfl
@[simp] theorem fld_28_0 : fld Tryz.prog 28 0 = some (25, 0) := by kernel_rfl
@[simp] theorem fsz_28_0 : fsz Tryz.prog 28 0 = some 2 := by kernel_rfl
@[simp] theorem fo_28_1 : fo Tryz.prog 28 1 = some 2 := by kernel_rfl
@[simp] theorem fld_28_1 : fld Tryz.prog 28 1 = some (26, 2) := by kernel_rfl
@[simp] theorem fsz_28_1 : fsz Tryz.prog 28 1 = some 1 := by kernel_rfl
@[simp] theorem sz_29 : sz Tryz.prog 29 = some 3 := by kernel_rfl
@[simp] theorem bytes_29 : bytes Tryz.prog 29 = some 32 := by kernel_rfl
@[simp] theorem szz_29 : szz Tryz.prog 29 = some 3 := by kernel_rfl
@[simp] theorem isAg_29 : isAg Tryz.prog 29 = some true := by kernel_rfl
@[simp] theorem zeroC_29 : zeroC Tryz.prog 29 = some [.v (.int .i64 0), .v (.int .i64 0), .v (.str [])] := by kernel_rfl
@[simp] theorem fieldsOk_29 : fieldsOk Tryz.prog 29 = true := by kernel_rfl
@[simp] theorem eqKinds_29 : eqKinds Tryz.prog 29 = some [1, 1, 2] := by kernel_rfl
@[simp] theorem fo_29_0 : fo Tryz.prog 29 0 = some 0 := by kernel_rfl
@[simp] theorem fld_29_0 : fld Tryz.prog 29 0 = some (3, 0) := by kernel_rfl
@[simp] theorem fsz_29_0 : fsz Tryz.prog 29 0 = some 1 := by kernel_rfl
@[simp] theorem fo_29_1 : fo Tryz.prog 29 1 = some 1 := by kernel_rfl
@[simp] theorem fld_29_1 : fld Tryz.prog 29 1 = some (3, 1) := by kernel_rfl
@[simp] theorem fsz_29_1 : fsz Tryz.prog 29 1 = some 1 := by kernel_rfl
@[simp] theorem fo_29_2 : fo Tryz.prog 29 2 = some 2 := by kernel_rfl
@[simp] theorem fld_29_2 : fld Tryz.prog 29 2 = some (9, 2) := by kernel_rfl
@[simp] theorem fsz_29_2 : fsz Tryz.prog 29 2 = some 1 := by kernel_rfl
@[simp] theorem sz_30 : sz Tryz.prog 30 = some 3 := by kernel_rfl
@[simp] theorem bytes_30 : bytes Tryz.prog 30 = some 32 := by kernel_rfl
@[simp] theorem szz_30 : szz Tryz.prog 30 = some 3 := by kernel_rfl
@[simp] theorem isAg_30 : isAg Tryz.prog 30 = some true := by kernel_rfl
@[simp] theorem zeroC_30 : zeroC Tryz.prog 30 = some [.v (.int .i64 0), .v (.int .i64 0), .v (.str [])] := by kernel_rfl
@[simp] theorem fieldsOk_30 : fieldsOk Tryz.prog 30 = true := by kernel_rfl
@[simp] theorem eqKinds_30 : eqKinds Tryz.prog 30 = some [1, 1, 2] := by kernel_rfl
@[simp] theorem fo_30_0 : fo Tryz.prog 30 0 = some 0 := by kernel_rfl
@[simp] theorem fld_30_0 : fld Tryz.prog 30 0 = some (3, 0) := by kernel_rfl
@[simp] theorem fsz_30_0 : fsz Tryz.prog 30 0 = some 1 := by kernel_rfl
@[simp] theorem fo_30_1 : fo Tryz.prog 30 1 = some 1 := by kernel_rfl
@[simp] theorem fld_30_1 : fld Tryz.prog 30 1 = some (3, 1) := by kernel_rfl
@[simp] theorem fsz_30_1 : fsz Tryz.prog 30 1 = some 1 := by kernel_rfl
@[simp] theorem fo_30_2 : fo Tryz.prog 30 2 = some 2 := by kernel_rfl
@[simp] theorem fld_30_2 : fld Tryz.prog 30 2 = some (9, 2) := by kernel_rfl
@[simp] theorem fsz_30_2 : fsz Tryz.prog 30 2 = some 1 := by kernel_rfl
@[simp] theorem sz_32 : sz Tryz.prog 32 = some 1 := by kernel_rfl
@[simp] theorem bytes_32 : bytes Tryz.prog 32 = some 8 := by kernel_rfl
@[simp] theorem szz_32 : szz Tryz.prog 32 = some 1 := by kernel_rfl
@[simp] theorem isAg_32 : isAg Tryz.prog 32 = some false := by kernel_rfl
@[simp] theorem zeroC_32 : zeroC Tryz.prog 32 = some [.v .any] := by kernel_rfl
@[simp] theorem sz_34 : sz Tryz.prog 34 = some 1 := by kernel_rfl
@[simp] theorem bytes_34 : bytes Tryz.prog 34 = some 8 := by kernel_rfl
@[simp] theorem szz_34 : szz Tryz.prog 34 = some 1 := by kernel_rfl
@[simp] theorem isAg_34 : isAg Tryz.prog 34 = some false := by kernel_rfl
@[simp] theorem zeroC_34 : zeroC Tryz.prog 34 = some [.v .any] := by kernel_rfl
@[simp] theorem sz_35 : sz Tryz.prog 35 = some 1 := by kernel_rfl
@[simp] theorem bytes_35 : bytes Tryz.prog 35 = some 8 := by kernel_rfl
@[simp] theorem szz_35 : szz Tryz.prog 35 = some 1 := by kernel_rfl
@[simp] theorem isAg_35 : isAg Tryz.prog 35 = some false := by kernel_rfl
@[simp] theorem zeroC_35 : zeroC Tryz.prog 35 = some [.v .any] := by kernel_rfl
@[simp] theorem sz_36 : sz Tryz.prog 36 = some 1 := by kernel_rfl
@[simp] theorem bytes_36 : bytes Tryz.prog 36 = some 8 := by kernel_rfl
@[simp] theorem szz_36 : szz Tryz.prog 36 = some 1 := by kernel_rfl
@[simp] theorem isAg_36 : isAg Tryz.prog 36 = some false := by kernel_rfl
@[simp] theorem zeroC_36 : zeroC Tryz.prog 36 = some [.v .any] := by kernel_rfl
@[simp] theorem sz_37 : sz Tryz.prog 37 = some 1 := by kernel_rfl
@[simp] theorem bytes_37 : bytes Tryz.prog 37 = some 8 := by kernel_rfl
@[simp] theorem szz_37 : szz Tryz.prog 37 = some 1 := by kernel_rfl
@[simp] theorem isAg_37 : isAg Tryz.prog 37 = some false := by kernel_rfl
@[simp] theorem zeroC_37 : zeroC Tryz.prog 37 = some [.v .any] := by kernel_rfl
@[simp] theorem sz_38 : sz Tryz.prog 38 = some 1 := by kernel_rfl
@[simp] theorem bytes_38 : bytes Tryz.prog 38 = some 8 := by kernel_rfl
@[simp] theorem szz_38 : szz Tryz.prog 38 = some 1 := by kernel_rfl
@[simp] theorem isAg_38 : isAg Tryz.prog 38 = some false := by kernel_rfl
@[simp] theorem zeroC_38 : zeroC Tryz.prog 38 = some [.v .any] := by kernel_rfl
@[simp] theorem sz_39 : sz Tryz.prog 39 = some 1 := by kernel_rfl
@[simp] theorem bytes_39 : bytes Tryz.prog 39 = some 8 := by kernel_rfl
@[simp] theorem szz_39 : szz Tryz.prog 39 = some 1 := by kernel_rfl
@[simp] theorem isAg_39 : isAg Tryz.prog 39 = some false := by kernel_rfl
@[simp] theorem zeroC_39 : zeroC Tryz.prog 39 = some [.v .any] := by kernel_rfl
@[simp] theorem sz_40 : sz Tryz.prog 40 = some 1 := by kernel_rfl
@[simp] theorem bytes_40 : bytes Tryz.prog 40 = some 24 := by kernel_rfl
@[simp] theorem szz_40 : szz Tryz.prog 40 = some 1 := by kernel_rfl
@[simp] theorem isAg_40 : isAg Tryz.prog 40 = some false := by kernel_rfl
@[simp] theorem elT_40 : elT Tryz.prog 40 = some 30 := by kernel_rfl
@[simp] theorem isStr_40 : isStr Tryz.prog 40 = some false := by kernel_rfl
@[simp] theorem zeroC_40 : zeroC Tryz.prog 40 = some [.nil] := by kernel_rfl
@[simp] theorem sz_42 : sz Tryz.prog 42 = some 1 := by kernel_rfl
@[simp] theorem bytes_42 : bytes Tryz.prog 42 = some 8 := by kernel_rfl
@[simp] theorem szz_42 : szz Tryz.prog 42 = some 1 := by kernel_rfl
@[simp] theorem isAg_42 : isAg Tryz.prog 42 = some false := by kernel_rfl
@[simp] theorem zeroC_42 : zeroC Tryz.prog 42 = some [.v .any] := by kernel_rfl
@[simp] theorem sz_44 : sz Tryz.prog 44 = some 1 := by kernel_rfl
@[simp] theorem bytes_44 : bytes Tryz.prog 44 = some 8 := by kernel_rfl
@[simp] theorem szz_44 : szz Tryz.prog 44 = some 1 := by kernel_rfl
@[simp] theorem isAg_44 : isAg Tryz.prog 44 = some false := by kernel_rfl
@[simp] theorem zeroC_44 : zeroC Tryz.prog 44 = some [.v .any] := by kernel_rfl
@[simp] theorem sz_45 : sz Tryz.prog 45 = some 1 := by kernel_rfl
@[simp] theorem bytes_45 : bytes Tryz.prog 45 = some 8 := by kernel_rfl
@[simp] theorem szz_45 : szz Tryz.prog 45 = some 1 := by kernel_rfl
@[simp] theorem isAg_45 : isAg Tryz.prog 45 = some false := by kernel_rfl
@[simp] theorem zeroC_45 : zeroC Tryz.prog 45 = some [.v .any] := by kernel_rfl
@[simp] theorem sz_46 : sz Tryz.prog 46 = some 1 := by kernel_rfl
@[simp] theorem bytes_46 : bytes Tryz.prog 46 = some 8 := by kernel_rfl
@[simp] theorem szz_46 : szz Tryz.prog 46 = some 1 := by kernel_rfl
@[simp] theorem isAg_46 : isAg Tryz.prog 46 = some false := by kernel_rfl
@[simp] theorem zeroC_46 : zeroC Tryz.prog 46 = some [.v .any] := by kernel_rfl
@[simp] theorem sz_47 : sz Tryz.prog 47 = some 1 := by kernel_rfl
@[simp] theorem bytes_47 : bytes Tryz.prog 47 = some 8 := by kernel_rfl
@[simp] theorem szz_47 : szz Tryz.prog 47 = some 1 := by kernel_rfl
@[simp] theorem isAg_47 : isAg Tryz.prog 47 = some false := by kernel_rfl
@[simp] theorem zeroC_47 : zeroC Tryz.prog 47 = some [.v .any] := by kernel_rfl
@[simp] theorem sz_48 : sz Tryz.prog 48 = some 1 := by kernel_rfl
@[simp] theorem bytes_48 : bytes Tryz.prog 48 = some 8 := by kernel_rfl
@[simp] theorem szz_48 : szz Tryz.prog 48 = some 1 := by kernel_rfl
@[simp] theorem isAg_48 : isAg Tryz.prog 48 = some false := by kernel_rfl
@[simp] theorem zeroC_48 : zeroC Tryz.prog 48 = some [.v .any] := by kernel_rfl
@[simp] theorem sz_49 : sz Tryz.prog 49 = some 1 := by kernel_rfl
@[simp] theorem bytes_49 : bytes Tryz.prog 49 = some 8 := by kernel_rfl
@[simp] theorem szz_49 : szz Tryz.prog 49 = some 1 := by kernel_rfl
@[simp] theorem isAg_49 : isAg Tryz.prog 49 = some false := by kernel_rfl
@[simp] theorem zeroC_49 : zeroC Tryz.prog 49 = some [.v .any] := by kernel_rfl
@[simp] theorem sz_50 : sz Tryz.prog 50 = some 1 := by kernel_rfl
@[simp] theorem bytes_50 : bytes Tryz.prog 50 = some 8 := by kernel_rfl
@[simp] theorem szz_50 : szz Tryz.prog 50 = some 1 := by kernel_rfl
@[simp] theorem isAg_50 : isAg Tryz.prog 50 = some false := by kernel_rfl
@[simp] theorem zeroC_50 : zeroC Tryz.prog 50 = some [.v .any] := by kernel_rfl
@[simp] theorem sz_51 : sz Tryz.prog 51 = some 1 := by kernel_rfl
@[simp] theorem bytes_51 : bytes Tryz.prog 51 = some 24 := by kernel_rfl
@[simp] theorem szz_51 : szz Tryz.prog 51 = some 1 := by kernel_rfl
@[simp] theorem isAg_51 : isAg Tryz.prog 51 = some false := by kernel_rfl
@[simp] theorem elT_51 : elT Tryz.prog 51 = some 90 := by kernel_rfl
@[simp] theorem isStr_51 : isStr Tryz.prog 51 = some false := by kernel_rfl
@[simp] theorem zeroC_51 : zeroC Tryz.prog 51 = some [.nil] := by kernel_rfl
@[simp] theorem sz_52 : sz Tryz.prog 52 = some 2 := by kernel_rfl
@[simp] theorem bytes_52 : bytes Tryz.prog 52 = some 32 := by kernel_rfl
@[simp] theorem szz_52 : szz Tryz.prog 52 = some 2 := by kernel_rfl
@[simp] theorem isAg_52 : isAg Tryz.prog 52 = some true := by kernel_rfl
@[simp] theorem zeroC_52 : zeroC Tryz.prog 52 = some [.v (.int .i64 0), .nil] := by kernel_rfl
@[simp] theorem fieldsOk_52 : fieldsOk Tryz.prog 52 = true := by kernel_rfl
@[simp] theorem fo_52_0 : fo Tryz.prog 52 0 = some 0 := by kernel_rfl
@[simp] theorem fld_52_0 : fld Tryz.prog 52 0 = some (3, 0) := by kernel_rfl
@[simp] theorem fsz_52_0 : fsz Tryz.prog 52 0 = some 1 := by kernel_rfl
@[simp] theorem fo_52_1 : fo Tryz.prog 52 1 = some 1 := by kernel_rfl
@[simp] theorem fld_52_1 : fld Tryz.prog 52 1 = some (51, 1) := by kernel_rfl
@[simp] theorem fsz_52_1 : fsz Tryz.prog 52 1 = some 1 := by kernel_rfl
@[simp] theorem sz_53 : sz Tryz.prog 53 = some 2 := by kernel_rfl
@[simp] theorem bytes_53 : bytes Tryz.prog 53 = some 32 := by kernel_rfl
@[simp] theorem szz_53 : szz Tryz.prog 53 = some 2 := by kernel_rfl
@[simp] theorem isAg_53 : isAg Tryz.prog 53 = some true := by kernel_rfl
@[simp] theorem zeroC_53 : zeroC Tryz.prog 53 = some [.v (.int .i64 0), .nil] := by kernel_rfl
@[simp] theorem fieldsOk_53 : fieldsOk Tryz.prog 53 = true := by kernel_rfl
@[simp] theorem fo_53_0 : fo Tryz.prog 53 0 = some 0 := by kernel_rfl
@[simp] theorem fld_53_0 : fld Tryz.prog 53 0 = some (3, 0) := by kernel_rfl
@[simp] theorem fsz_53_0 : fsz Tryz.prog 53 0 = some 1 := by kernel_rfl
@[simp] theorem fo_53_1 : fo Tryz.prog 53 1 = some 1 := by kernel_rfl
@[simp] theorem fld_53_1 : fld Tryz.prog 53 1 = some (51, 1) := by kernel_rfl
@[simp] theorem fsz_53_1 : fsz Tryz.prog 53 1 = some 1 := by kernel_rfl
@[simp] theorem sz_55 : sz Tryz.prog 55 = some 1 := by kernel_rfl
@[simp] theorem bytes_55 : bytes Tryz.prog 55 = some 8 := by kernel_rfl
@[simp] theorem szz_55 : szz Tryz.prog 55 = some 1 := by kernel_rfl
@[simp] theorem isAg_55 : isAg Tryz.prog 55 = some false := by kernel_rfl
@[simp] theorem zeroC_55 : zeroC Tryz.prog 55 = some [.v .any] := by kernel_rfl
@[simp] theorem sz_56 : sz Tryz.prog 56 = some 1 := by kernel_rfl
@[simp] theorem bytes_56 : bytes Tryz.prog 56 = some 8 := by kernel_rfl
@[simp] theorem szz_56 : szz Tryz.prog 56 = some 1 := by kernel_rfl
@[simp] theorem isAg_56 : isAg Tryz.prog 56 = some false := by kernel_rfl
@[simp] theorem zeroC_56 : zeroC Tryz.prog 56 = some [.v .any] := by kernel_rfl
@[simp] theorem sz_58 : sz Tryz.prog 58 = some 1 := by kernel_rfl
@[simp] theorem bytes_58 : bytes Tryz.prog 58 = some 8 := by kernel_rfl
@[simp] theorem szz_58 : szz Tryz.prog 58 = some 1 := by kernel_rfl
@[simp] theorem isAg_58 : isAg Tryz.prog 58 = some false := by kernel_rfl
@[simp] theorem zeroC_58 : zeroC Tryz.prog 58 = some [.v .any] := by kernel_rfl
@[simp] theorem sz_59 : sz Tryz.prog 59 = some 1 := by kernel_rfl
@[simp] theorem bytes_59 : bytes Tryz.prog 59 = some 8 := by kernel_rfl
@[simp] theorem szz_59 : szz Tryz.prog 59 = some 1 := by kernel_rfl
@[simp] theorem isAg_59 : isAg Tryz.prog 59 = some false := by kernel_rfl
@[simp] theorem zeroC_59 : zeroC Tryz.prog 59 = some [.v .any] := by kernel_rfl
@[simp] theorem sz_60 : sz Tryz.prog 60 = some 1 := by kernel_rfl
@[simp] theorem bytes_60 : bytes Tryz.prog 60 = some 8 := by kernel_rfl
@[simp] theorem szz_60 : szz Tryz.prog 60 = some 1 := by kernel_rfl
@[simp] theorem isAg_60 : isAg Tryz.prog 60 = some false := by kernel_rfl
@[simp] theorem zeroC_60 : zeroC Tryz.prog 60 = some [.v .any] := by kernel_rfl
@[simp] theorem sz_61 : sz Tryz.prog 61 = some 1 := by kernel_rfl
@[simp] theorem bytes_61 : bytes Tryz.prog 61 = some 8 := by kernel_rfl
@[simp] theorem szz_61 : szz Tryz.prog 61 = some 1 := by kernel_rfl
@[simp] theorem isAg_61 : isAg Tryz.prog 61 = some false := by kernel_rfl
@[simp] theorem zeroC_61 : zeroC Tryz.prog 61 = some [.v .any] := by kernel_rfl
@[simp] theorem sz_62 : sz Tryz.prog 62 = some 1 := by kernel_rfl
@[simp] theorem bytes_62 : bytes Tryz.prog 62 = some 8 := by kernel_rfl
@[simp] theorem szz_62 : szz Tryz.prog 62 = some 1 := by kernel_rfl
@[simp] theorem isAg_62 : isAg Tryz.prog 62 = some false := by kernel_rfl
@[simp] theorem zeroC_62 : zeroC Tryz.prog 62 = some [.v .any] := by kernel_rfl
@[simp] theorem sz_63 : sz Tryz.prog 63 = some 1 := by kernel_rfl
@[simp] theorem bytes_63 : bytes Tryz.prog 63 = some 8 := by kernel_rfl
@[simp] theorem szz_63 : szz Tryz.prog 63 = some 1 := by kernel_rfl
@[simp] theorem isAg_63 : isAg Tryz.prog 63 = some false := by kernel_rfl
@[simp] theorem zeroC_63 : zeroC Tryz.prog 63 = some [.v .any] := by kernel_rfl
@[simp] theorem sz_64 : sz Tryz.prog 64 = some 1 := by kernel_rfl
@[simp] theorem bytes_64 : bytes Tryz.prog 64 = some 8 := by kernel_rfl
@[simp] theorem szz_64 : szz Tryz.prog 64 = some 1 := by kernel_rfl
@[simp] theorem isAg_64 : isAg Tryz.prog 64 = some false := by kernel_rfl
@[simp] theorem zeroC_64 : zeroC Tryz.prog 64 = some [.v .any] := by kernel_rfl
@[simp] theorem sz_65 : sz Tryz.prog 65 = some 1 := by kernel_rfl
@[simp] theorem bytes_65 : bytes Tryz.prog 65 = some 8 := by kernel_rfl
@[simp] theorem szz_65 : szz Tryz.prog 65 = some 1 := by kernel_rfl
@[simp] theorem isAg_65 : isAg Tryz.prog 65 = some false := by kernel_rfl
@[simp] theorem zeroC_65 : zeroC Tryz.prog 65 = some [.v .any] := by kernel_rfl
@[simp] theorem sz_66 : sz Tryz.prog 66 = some 1 := by kernel_rfl
@[simp] theorem bytes_66 : bytes Tryz.prog 66 = some 8 := by kernel_rfl
@[simp] theorem szz_66 : szz Tryz.prog 66 = some 1 := by kernel_rfl
@[simp] theorem isAg_66 : isAg Tryz.prog 66 = some false := by kernel_rfl
@[simp] theorem zeroC_66 : zeroC Tryz.prog 66 = some [.v .any] := by kernel_rfl
@[simp] theorem sz_67 : sz Tryz.prog 67 = some 1 := by kernel_rfl
@[simp] theorem bytes_67 : bytes Tryz.prog 67 = some 8 := by kernel_rfl
@[simp] theorem szz_67 : szz Tryz.prog 67 = some 1 := by kernel_rfl
@[simp] theorem isAg_67 : isAg Tryz.prog 67 = some false := by kernel_rfl
@[simp] theorem zeroC_67 : zeroC Tryz.prog 67 = some [.v .any] := by kernel_rfl
@[simp] theorem sz_68 : sz Tryz.prog 68 = some 1 := by kernel_rfl
@[simp] theorem bytes_68 : bytes Tryz.prog 68 = some 8 := by kernel_rfl
@[simp] theorem szz_68 : szz Tryz.prog 68 = some 1 := by kernel_rfl
@[simp] theorem isAg_68 : isAg Tryz.prog 68 = some false := by kernel_rfl
@[simp] theorem zeroC_68 : zeroC Tryz.prog 68 = some [.v .any] := by kernel_rfl
@[simp] theorem sz_69 : sz Tryz.prog 69 = some 2 := by kernel_rfl
@[simp] theorem bytes_69 : bytes Tryz.prog 69 = some 32 := by kernel_rfl
@[simp] theorem szz_69 : szz Tryz.prog 69 = some 2 := by kernel_rfl
@[simp] theorem isAg_69 : isAg Tryz.prog 69 = some true := by kernel_rfl
@[simp] theorem zeroC_69 : zeroC Tryz.prog 69 = some [.nil, .v (.int .i64 0)] := by kernel_rfl
@[simp] theorem fieldsOk_69 : fieldsOk Tryz.prog 69 = true := by kernel_rfl
@[simp] theorem fo_69_0 : fo Tryz.prog 69 0 = some 0 := by kernel_rfl
@[simp] theorem fld_69_0 : fld Tryz.prog 69 0 = some (22, 0) := by kernel_rfl
@[simp] theorem fsz_69_0 : fsz Tryz.prog 69 0 = some 1 := by kernel_rfl
@[simp] theorem fo_69_1 : fo Tryz.prog 69 1 = some 1 := by kernel_rfl
@[simp] theorem fld_69_1 : fld Tryz.prog 69 1 = some (3, 1) := by kernel_rfl
@[simp] theorem fsz_69_1 : fsz Tryz.prog 69 1 = some 1 := by kernel_rfl
@[simp] theorem sz_70 : sz Tryz.prog 70 = some 2 := by kernel_rfl
@[simp] theorem bytes_70 : bytes Tryz.prog 70 = some 32 := by kernel_rfl
@[simp] theorem szz_70 : szz Tryz.prog 70 = some 2 := by kernel_rfl
@[simp] theorem isAg_70 : isAg Tryz.prog 70 = some true := by kernel_rfl
@[simp] theorem zeroC_70 : zeroC Tryz.prog 70 = some [.nil, .v (.int .i64 0)] := by kernel_rfl
@[simp] theorem fieldsOk_70 : fieldsOk Tryz.prog 70 = true := by kernel_rfl
@[simp] theorem fo_70_0 : fo Tryz.prog 70 0 = some 0 := by kernel_rfl
@[simp] theorem fld_70_0 : fld Tryz.prog 70 0 = some (22, 0) := by kernel_rfl
@[simp] theorem fsz_70_0 : fsz Tryz.prog 70 0 = some 1 := by kernel_rfl
@[simp] theorem fo_70_1 : fo Tryz.prog 70 1 = some 1 := by kernel_rfl
@[simp] theorem fld_70_1 : fld Tryz.prog 70 1 = some (3, 1) := by kernel_rfl
@[simp] theorem fsz_70_1 : fsz Tryz.prog 70 1 = some 1 := by kernel_rfl
@[simp] theorem sz_71 : sz Tryz.prog 71 = some 1 := by kernel_rfl
@[simp] theorem bytes_71 : bytes Tryz.prog 71 = some 8 := by kernel_rfl
@[simp] theorem szz_71 : szz Tryz.prog 71 = some 1 := by kernel_rfl
@[simp] theorem isAg_71 : isAg Tryz.prog 71 = some false := by kernel_rfl
@[simp] theorem zeroC_71 : zeroC Tryz.prog 71 = some [.v .any] := by kernel_rfl
@[simp] theorem sz_72 : sz Tryz.prog 72 = some 1 := by kernel_rfl
@[simp] theorem bytes_72 : bytes Tryz.prog 72 = some 8 := by kernel_rfl
@[simp] theorem szz_72 : szz Tryz.prog 72 = some 1 := by kernel_rfl
@[simp] theorem isAg_72 : isAg Tryz.prog 72 = some false := by kernel_rfl
@[simp] theorem zeroC_72 : zeroC Tryz.prog 72 = some [.v .any] := by kernel_rfl
@[simp] theorem sz_73 : sz Tryz.prog 73 = some 1 := by kernel_rfl
@[simp] theorem bytes_73 : bytes Tryz.prog 73 = some 8 := by kernel_rfl
@[simp] theorem szz_73 : szz Tryz.prog 73 = some 1 := by kernel_rfl
@[simp] theorem isAg_73 : isAg Tryz.prog 73 = some false := by kernel_rfl
@[simp] theorem zeroC_73 : zeroC Tryz.prog 73 = some [.v .any] := by kernel_rfl
@[simp] theorem sz_74 : sz Tryz.prog 74 = some 1 := by kernel_rfl
@[simp] theorem bytes_74 : bytes Tryz.prog 74 = some 24 := by kernel_rfl
@[simp] theorem szz_74 : szz Tryz.prog 74 = some 1 := by kernel_rfl
@[simp] theorem isAg_74 : isAg Tryz.prog 74 = some false := by kernel_rfl
@[simp] theorem elT_74 : elT Tryz.prog 74 = some 3 := by kernel_rfl
@[simp] theorem isStr_74 : isStr Tryz.prog 74 = some false := by kernel_rfl
@[simp] theorem zeroC_74 : zeroC Tryz.prog 74 = some [.nil] := by kernel_rfl
@[simp] theorem sz_75 : sz Tryz.prog 75 = some 1 := by kernel_rfl
@[simp] theorem bytes_75 : bytes Tryz.prog 75 = some 8 := by kernel_rfl
@[simp] theorem szz_75 : szz Tryz.prog 75 = some 1 := by kernel_rfl
@[simp] theorem isAg_75 : isAg Tryz.prog 75 = some false := by kernel_rfl
@[simp] theorem zeroC_75 : zeroC Tryz.prog 75 = some [.v .any] := by kernel_rfl
@[simp] theorem sz_76 : sz Tryz.prog 76 = some 1 := by kernel_rfl
@[simp] theorem bytes_76 : bytes Tryz.prog 76 = some 8 := by kernel_rfl
@[simp] theorem szz_76 : szz Tryz.prog 76 = some 1 := by kernel_rfl
@[simp] theorem isAg_76 : isAg Tryz.prog 76 = some false := by kernel_rfl
@[simp] theorem zeroC_76 : zeroC Tryz.prog 76 = some [.v .any] := by kernel_rfl
@[simp] theorem sz_77 : sz Tryz.prog 77 = some 1 := by kernel_rfl
@[simp] theorem bytes_77 : bytes Tryz.prog 77 = some 24 := by kernel_rfl
@[simp] theorem szz_77 : szz Tryz.prog 77 = some 1 := by kernel_rfl
@[simp] theorem isAg_77 : isAg Tryz.prog 77 = some false := by kernel_rfl
@[simp] theorem elT_77 : elT Tryz.prog 77 = some 9 := by kernel_rfl
@[simp] theorem isStr_77 : isStr Tryz.prog 77 = some false := by kernel_rfl
@[simp] theorem zeroC_77 : zeroC Tryz.prog 77 = some [.nil] := by kernel_rfl
@[simp] theorem sz_79 : sz Tryz.prog 79 = some 1 := by kernel_rfl
@[simp] theorem bytes_79 : bytes Tryz.prog 79 = some 8 := by kernel_rfl
@[simp] theorem szz_79 : szz Tryz.prog 79 = some 1 := by kernel_rfl
@[simp] theorem isAg_79 : isAg Tryz.prog 79 = some false := by kernel_rfl
@[simp] theorem zeroC_79 : zeroC Tryz.prog 79 = some [.v .any] := by kernel_rfl
@[simp] theorem sz_80 : sz Tryz.prog 80 = some 1 := by kernel_rfl
@[simp] theorem bytes_80 : bytes Tryz.prog 80 = some 8 := by kernel_rfl
@[simp] theorem szz_80 : szz Tryz.prog 80 = some 1 := by kernel_rfl
@[simp] theorem isAg_80 : isAg Tryz.prog 80 = some false := by kernel_rfl
@[simp] theorem zeroC_80 : zeroC Tryz.prog 80 = some [.v .any] := by kernel_rfl
@[simp] theorem sz_81 : sz Tryz.prog 81 = some 1 := by kernel_rfl
@[simp] theorem bytes_81 : bytes Tryz.prog 81 = some 8 := by kernel_rfl
@[simp] theorem szz_81 : szz Tryz.prog 81 = some 1 := by kernel_rfl
@[simp] theorem isAg_81 : isAg Tryz.prog 81 = some false := by kernel_rfl
@[simp] theorem zeroC_81 : zeroC Tryz.prog 81 = some [.v .any] := by kernel_rfl
@[simp] theorem sz_82 : sz Tryz.prog 82 = some 1 := by kernel_rfl
@[simp] theorem bytes_82 : bytes Tryz.prog 82 = some 8 := by kernel_rfl
@[simp] theorem szz_82 : szz Tryz.prog 82 = some 1 := by kernel_rfl
@[simp] theorem isAg_82 : isAg Tryz.prog 82 = some false := by kernel_rfl
@[simp] theorem zeroC_82 : zeroC Tryz.prog 82 = some [.v .any] := by kernel_rfl
@[simp] theorem sz_83 : sz Tryz.prog 83 = some 1 := by kernel_rfl
@[simp] theorem bytes_83 : bytes Tryz.prog 83 = some 8 := by kernel_rfl
@[simp] theorem szz_83 : szz Tryz.prog 83 = some 1 := by kernel_rfl
@[simp] theorem isAg_83 : isAg Tryz.prog 83 = some false := by kernel_rfl
@[simp] theorem zeroC_83 : zeroC Tryz.prog 83 = some [.v .any] := by kernel_rfl
@[simp] theorem sz_84 : sz Tryz.prog 84 = some 1 := by kernel_rfl
@[simp] theorem bytes_84 : bytes Tryz.prog 84 = some 8 := by kernel_rfl
@[simp] theorem szz_84 : szz Tryz.prog 84 = some 1 := by kernel_rfl
@[simp] theorem isAg_84 : isAg Tryz.prog 84 = some false := by kernel_rfl
@[simp] theorem zeroC_84 : zeroC Tryz.prog 84 = some [.v .any] := by kernel_rfl
@[simp] theorem sz_85 : sz Tryz.prog 85 = some 1 := by kernel_rfl
@[simp] theorem bytes_85 : bytes Tryz.prog 85 = some 8 := by kernel_rfl
@[simp] theorem szz_85 : szz Tryz.prog 85 = some 1 := by kernel_rfl
@[simp] theorem isAg_85 : isAg Tryz.prog 85 = some false := by kernel_rfl
@[simp] theorem zeroC_85 : zeroC Tryz.prog 85 = some [.v .any] := by kernel_rfl
@[simp] theorem sz_86 : sz Tryz.prog 86 = some 1 := by kernel_rfl
@[simp] theorem bytes_86 : bytes Tryz.prog 86 = some 8 := by kernel_rfl
@[simp] theorem szz_86 : szz Tryz.prog 86 = some 1 := by kernel_rfl
@[simp] theorem isAg_86 : isAg Tryz.prog 86 = some false := by kernel_rfl
@[simp] theorem zeroC_86 : zeroC Tryz.prog 86 = some [.v .any] := by kernel_rfl
@[simp] theorem sz_87 : sz Tryz.prog 87 = some 1 := by kernel_rfl
@[simp] theorem bytes_87 : bytes Tryz.prog 87 = some 8 := by kernel_rfl
@[simp] theorem szz_87 : szz Tryz.prog 87 = some 1 := by kernel_rfl
@[simp] theorem isAg_87 : isAg Tryz.prog 87 = some false := by kernel_rfl
@[simp] theorem intK_87 : intK Tryz.prog 87 = some .u64 := by kernel_rfl
@[simp] theorem zeroC_87 : zeroC Tryz.prog 87 = some [.v (.int .u64 0)] := by kernel_rfl
@[simp] theorem sz_88 : sz Tryz.prog 88 = some 1 := by kernel_rfl
@[simp] theorem bytes_88 : bytes Tryz.prog 88 = some 8 := by kernel_rfl
@[simp] theorem szz_88 : szz Tryz.prog 88 = some 1 := by kernel_rfl
@[simp] theorem isAg_88 : isAg Tryz.prog 88 = some false := by kernel_rfl
@[simp] theorem zeroC_88 : zeroC Tryz.prog 88 = some [.v .any] := by kernel_rfl
@[simp] theorem sz_89 : sz Tryz.prog 89 = some 2 := by kernel_rfl
@[simp] theorem bytes_89 : bytes Tryz.prog 89 = some 16 := by kernel_rfl
@[simp] theorem szz_89 : szz Tryz.prog 89 = some 2 := by kernel_rfl
@[simp] theorem isAg_89 : isAg Tryz.prog 89 = some true := by kernel_rfl
@[simp] theorem zeroC_89 : zeroC Tryz.prog 89 = some [.v (.int .i64 0), .v (.int .i64 0)] := by kernel_rfl
@[simp] theorem fieldsOk_89 : fieldsOk Tryz.prog 89 = true := by kernel_rfl
@[simp] theorem eqKinds_89 : eqKinds Tryz.prog 89 = some [1, 1] := by kernel_rfl
@[simp] theorem fo_89_0 : fo Tryz.prog 89 0 = some 0 := by kernel_rfl
@[simp] theorem fld_89_0 : fld Tryz.prog 89 0 = some (3, 0) := by kernel_rfl
@[simp] theorem fsz_89_0 : fsz Tryz.prog 89 0 = some 1 := by kernel_rfl
@[simp] theorem fo_89_1 : fo Tryz.prog 89 1 = some 1 := by kernel_rfl
@[simp] theorem fld_89_1 : fld Tryz.prog 89 1 = some (3, 1) := by kernel_rfl
@[simp] theorem fsz_89_1 : fsz Tryz.prog 89 1 = some 1 := by kernel_rfl
@[simp] theorem sz_90 : sz Tryz.prog 90 = some 2 := by kernel_rfl
@[simp] theorem bytes_90 : bytes Tryz.prog 90 = some 16 := by kernel_rfl
@[simp] theorem szz_90 : szz Tryz.prog 90 = some 2 := by kernel_rfl
@[simp] theorem isAg_90 : isAg Tryz.prog 90 = some true := by kernel_rfl
@[simp] theorem zeroC_90 : zeroC Tryz.prog 90 = some [.v (.int .i64 0), .v (.int .i64 0)] := by kernel_rfl
@[simp] theorem fieldsOk_90 : fieldsOk Tryz.prog 90 = true := by kernel_rfl
@[simp] theorem eqKinds_90 : eqKinds Tryz.prog 90 = some [1, 1] := by kernel_rfl
@[simp] theorem fo_90_0 : fo Tryz.prog 90 0 = some 0 := by kernel_rfl
@[simp] theorem fld_90_0 : fld Tryz.prog 90 0 = some (3, 0) := by kernel_rfl
@[simp] theorem fsz_90_0 : fsz Tryz.prog 90 0 = some 1 := by kernel_rfl
@[simp] theorem fo_90_1 : fo Tryz.prog 90 1 = some 1 := by kernel_rfl
@[simp] theorem fld_90_1 : fld Tryz.prog 90 1 = some (3, 1) := by kernel_rfl
@[simp] theorem fsz_90_1 : fsz Tryz.prog 90 1 = some 1 := by kernel_rfl
@[simp] theorem sz_91 : sz Tryz.prog 91 = some 1 := by kernel_rfl
@[simp] theorem bytes_91 : bytes Tryz.prog 91 = some 8 := by kernel_rfl
@[simp] theorem szz_91 : szz Tryz.prog 91 = some 1 := by kernel_rfl
@[simp] theorem isAg_91 : isAg Tryz.prog 91 = some false := by kernel_rfl
@[simp] theorem zeroC_91 : zeroC Tryz.prog 91 = some [.v .any] := by kernel_rfl
@[simp] theorem sz_92 : sz Tryz.prog 92 = some 1 := by kernel_rfl
@[simp] theorem bytes_92 : bytes Tryz.prog 92 = some 8 := by kernel_rfl
@[simp] theorem szz_92 : szz Tryz.prog 92 = some 1 := by kernel_rfl
@[simp] theorem isAg_92 : isAg Tryz.prog 92 = some false := by kernel_rfl
@[simp] theorem zeroC_92 : zeroC Tryz.prog 92 = some [.v .any] := by kernel_rfl
@[simp] theorem sz_94 : sz Tryz.prog 94 = some 1 := by kernel_rfl
@[simp] theorem bytes_94 : bytes Tryz.prog 94 = some 8 := by kernel_rfl
@[simp] theorem szz_94 : szz Tryz.prog 94 = some 1 := by kernel_rfl
@[simp] theorem isAg_94 : isAg Tryz.prog 94 = some false := by kernel_rfl
@[simp] theorem zeroC_94 : zeroC Tryz.prog 94 = some [.v .any] := by kernel_rfl
@[simp] theorem sz_95 : sz Tryz.prog 95 = some 1 := by kernel_rfl
@[simp] theorem bytes_95 : bytes Tryz.prog 95 = some 8 := by kernel_rfl
@[simp] theorem szz_95 : szz Tryz.prog 95 = some 1 := by kernel_rfl
@[simp] theorem isAg_95 : isAg Tryz.prog 95 = some false := by kernel_rfl
@[simp] theorem zeroC_95 : zeroC Tryz.prog 95 = some [.v .any] := by kernel_rfl
@[simp] theorem sz_96 : sz Tryz.prog 96 = some 1 := by kernel_rfl
@[simp] theorem bytes_96 : bytes Tryz.prog 96 = some 8 := by kernel_rfl
@[simp] theorem szz_96 : szz Tryz.prog 96 = some 1 := by kernel_rfl
@[simp] theorem isAg_96 : isAg Tryz.prog 96 = some false := by kernel_rfl
@[simp] theorem zeroC_96 : zeroC Tryz.prog 96 = some [.v .any] := by kernel_rfl
@[simp] theorem sz_97 : sz Tryz.prog 97 = some 1 := by kernel_rfl
@[simp] theorem bytes_97 : bytes Tryz.prog 97 = some 8 := by kernel_rfl
@[simp] theorem szz_97 : szz Tryz.prog 97 = some 1 := by kernel_rfl
@[simp] theorem isAg_97 : isAg Tryz.prog 97 = some false := by kernel_rfl
@[simp] theorem zeroC_97 : zeroC Tryz.prog 97 = some [.v .any] := by kernel_rfl
@[simp] theorem sz_98 : sz Tryz.prog 98 = some 2 := by kernel_rfl
@[simp] theorem bytes_98 : bytes Tryz.prog 98 = some 32 := by kernel_rfl
@[simp] theorem szz_98 : szz Tryz.prog 98 = some 2 := by kernel_rfl
@[simp] theorem isAg_98 : isAg Tryz.prog 98 = some true := by kernel_rfl
@[simp] theorem fieldsOk_98 : fieldsOk Tryz.prog 98 = true := by kernel_rfl
@[simp] theorem fo_98_0 : fo Tryz.prog 98 0 = some 0 := by kernel_rfl
@[simp] theorem fld_98_0 : fld Tryz.prog 98 0 = some (97, 0) := by kernel_rfl
@[simp] theorem fsz_98_0 : fsz Tryz.prog 98 0 = some 1 := by kernel_rfl
@[simp] theorem fo_98_1 : fo Tryz.prog 98 1 = some 1 := by kernel_rfl
@[simp] theorem fld_98_1 : fld Tryz.prog 98 1 = some (22, 1) := by kernel_rfl
@[simp] theorem fsz_98_1 : fsz Tryz.prog 98 1 = some 1 := by kernel_rfl
@[simp] theorem sz_99 : sz Tryz.prog 99 = some 2 := by kernel_rfl
@[simp] theorem bytes_99 : bytes Tryz.prog 99 = some 32 := by kernel_rfl
@[simp] theorem szz_99 : szz Tryz.prog 99 = some 2 := by kernel_rfl
@[simp] theorem isAg_99 : isAg Tryz.prog 99 = some true := by kernel_rfl
@[simp] theorem fieldsOk_99 : fieldsOk Tryz.prog 99 = true := by kernel_rfl
@[simp] theorem fo_99_0 : fo Tryz.prog 99 0 = some 0 := by kernel_rfl
@[simp] theorem fld_99_0 : fld Tryz.prog 99 0 = some (97, 0) := by kernel_rfl
@[simp] theorem fsz_99_0 : fsz Tryz.prog 99 0 = some 1 := by kernel_rfl
@[simp] theorem fo_99_1 : fo Tryz.prog 99 1 = some 1 := by kernel_rfl
@[simp] theorem fld_99_1 : fld Tryz.prog 99 1 = some (22, 1) := by kernel_rfl
@[simp] theorem fsz_99_1 : fsz Tryz.prog 99 1 = some 1 := by kernel_rfl
@[simp] theorem sz_100 : sz Tryz.prog 100 = some 1 := by kernel_rfl
@[simp] theorem bytes_100 : bytes Tryz.prog 100 = some 8 := by kernel_rfl
@[simp] theorem szz_100 : szz Tryz.prog 100 = some 1 := by kernel_rfl
@[simp] theorem isAg_100 : isAg Tryz.prog 100 = some false := by kernel_rfl
@[simp] theorem zeroC_100 : zeroC Tryz.prog 100 = some [.v .any] := by kernel_rfl
@[simp] theorem sz_104 : sz Tryz.prog 104 = some 1 := by kernel_rfl
@[simp] theorem bytes_104 : bytes Tryz.prog 104 = some 8 := by kernel_rfl
@[simp] theorem szz_104 : szz Tryz.prog 104 = some 1 := by kernel_rfl
@[simp] theorem isAg_104 : isAg Tryz.prog 104 = some false := by kernel_rfl
@[simp] theorem zeroC_104 : zeroC Tryz.prog 104 = some [.v .any] := by kernel_rfl
@[simp] theorem sz_105 : sz Tryz.prog 105 = some 1 := by kernel_rfl
@[simp] theorem bytes_105 : bytes Tryz.prog 105 = some 8 := by kernel_rfl
@[simp] theorem szz_105 : szz Tryz.prog 105 = some 1 := by kernel_rfl
@[simp] theorem isAg_105 : isAg Tryz.prog 105 = some false := by kernel_rfl
@[simp] theorem zeroC_105 : zeroC Tryz.prog 105 = some [.v .any] := by kernel_rfl
@[simp] theorem sz_106 : sz Tryz.prog 106 = some 1 := by kernel_rfl
@[simp] theorem bytes_106 : bytes Tryz.prog 106 = some 8 := by kernel_rfl
@[simp] theorem szz_106 : szz Tryz.prog 106 = some 1 := by kernel_rfl
@[simp] theorem isAg_106 : isAg Tryz.prog 106 = some false := by kernel_rfl
@[simp] theorem zeroC_106 : zeroC Tryz.prog 106 = some [.v .any] := by kernel_rfl
@[simp] theorem sz_107 : sz Tryz.prog 107 = some 1 := by kernel_rfl
@[simp] theorem bytes_107 : bytes Tryz.prog 107 = some 8 := by kernel_rfl
@[simp] theorem szz_107 : szz Tryz.prog 107 = some 1 := by kernel_rfl
@[simp] theorem isAg_107 : isAg Tryz.prog 107 = some false := by kernel_rfl
@[simp] theorem zeroC_107 : zeroC Tryz.prog 107 = some [.v .any] := by kernel_rfl
@[simp] theorem sz_108 : sz Tryz.prog 108 = some 1 := by kernel_rfl
@[simp] theorem bytes_108 : bytes Tryz.prog 108 = some 8 := by kernel_rfl
@[simp] theorem szz_108 : szz Tryz.prog 108 = some 1 := by kernel_rfl
@[simp] theorem isAg_108 : isAg Tryz.prog 108 = some false := by kernel_rfl
@[simp] theorem zeroC_108 : zeroC Tryz.prog 108 = some [.v .any] := by kernel_rfl
@[simp] theorem sz_109 : sz Tryz.prog 109 = some 1 := by kernel_rfl
@[simp] theorem bytes_109 : bytes Tryz.prog 109 = some 8 := by kernel_rfl
@[simp] theorem szz_109 : szz Tryz.prog 109 = some 1 := by kernel_rfl
@[simp] theorem isAg_109 : isAg Tryz.prog 109 = some false := by kernel_rfl
@[simp] theorem zeroC_109 : zeroC Tryz.prog 109 = some [.v .any] := by kernel_rfl
@[simp] theorem sz_110 : sz Tryz.prog 110 = some 1 := by kernel_rfl
@[simp] theorem bytes_110 : bytes Tryz.prog 110 = some 8 := by kernel_rfl
@[simp] theorem szz_110 : szz Tryz.prog 110 = some 1 := by kernel_rfl
@[simp] theorem isAg_110 : isAg Tryz.prog 110 = some false := by kernel_rfl
@[simp] theorem zeroC_110 : zeroC Tryz.prog 110 = some [.v .any] := by kernel_rfl
@[simp] theorem sz_111 : sz Tryz.prog 111 = some 1 := by kernel_rfl
@[simp] theorem bytes_111 : bytes Tryz.prog 111 = some 8 := by kernel_rfl
@[simp] theorem szz_111 : szz Tryz.prog 111 = some 1 := by kernel_rfl
@[simp] theorem isAg_111 : isAg Tryz.prog 111 = some false := by kernel_rfl
@[simp] theorem zeroC_111 : zeroC Tryz.prog 111 = some [.v .any] := by kernel_rfl
@[simp] theorem sz_112 : sz Tryz.prog 112 = some 1 := by kernel_rfl
@[simp] theorem bytes_112 : bytes Tryz.prog 112 = some 8 := by kernel_rfl
@[simp] theorem szz_112 : szz Tryz.prog 112 = some 1 := by kernel_rfl
@[simp] theorem isAg_112 : isAg Tryz.prog 112 = some false := by kernel_rfl
@[simp] theorem zeroC_112 : zeroC Tryz.prog 112 = some [.v .any] := by kernel_rfl
@[simp] theorem sz_113 : sz Tryz.prog 113 = some 1 := by kernel_rfl
@[simp] theorem bytes_113 : bytes Tryz.prog 113 = some 24 := by kernel_rfl
@[simp] theorem szz_113 : szz Tryz.prog 113 = some 1 := by kernel_rfl
@[simp] theorem isAg_113 : isAg Tryz.prog 113 = some false := by kernel_rfl
@[simp] theorem elT_113 : elT Tryz.prog 113 = some 51 := by kernel_rfl
@[simp] theorem isStr_113 : isStr Tryz.prog 113 = some false := by kernel_rfl
@[simp] theorem zeroC_113 : zeroC Tryz.prog 113 = some [.nil] := by kernel_rfl
@[simp] theorem sz_114 : sz Tryz.prog 114 = some 1 := by kernel_rfl
@[simp] theorem bytes_114 : bytes Tryz.prog 114 = some 8 := by kernel_rfl
@[simp] theorem szz_114 : szz Tryz.prog 114 = some 1 := by kernel_rfl
@[simp] theorem isAg_114 : isAg Tryz.prog 114 = some false := by kernel_rfl
@[simp] theorem zeroC_114 : zeroC Tryz.prog 114 = some [.v .any] := by kernel_rfl
@[simp] theorem sz_115 : sz Tryz.prog 115 = some 1 := by kernel_rfl
@[simp] theorem bytes_115 : bytes Tryz.prog 115 = some 8 := by kernel_rfl
@[simp] theorem szz_115 : szz Tryz.prog 115 = some 1 := by kernel_rfl
@[simp] theorem isAg_115 : isAg Tryz.prog 115 = some false := by kernel_rfl
@[simp] theorem zeroC_115 : zeroC Tryz.prog 115 = some [.v .any] := by kernel_rfl
@[simp] theorem sz_116 : sz Tryz.prog 116 = some 1 := by kernel_rfl
@[simp] theorem bytes_116 : bytes Tryz.prog 116 = some 8 := by kernel_rfl
@[simp] theorem szz_116 : szz Tryz.prog 116 = some 1 := by kernel_rfl
@[simp] theorem isAg_116 : isAg Tryz.prog 116 = some false := by kernel_rfl
@[simp] theorem zeroC_116 : zeroC Tryz.prog 116 = some [.v .any] := by kernel_rfl
@[simp] theorem sz_117 : sz Tryz.prog 117 = some 1 := by kernel_rfl
@[simp] theorem bytes_117 : bytes Tryz.prog 117 = some 8 := by kernel_rfl
@[simp] theorem szz_117 : szz Tryz.prog 117 = some 1 := by kernel_rfl
@[simp] theorem isAg_117 : isAg Tryz.prog 117 = some false := by kernel_rfl
@[simp] theorem zeroC_117 : zeroC Tryz.prog 117 = some [.v .any] := by kernel_rfl
@[simp] theorem sz_119 : sz Tryz.prog 119 = some 1 := by kernel_rfl
@[simp] theorem bytes_119 : bytes Tryz.prog 119 = some 8 := by kernel_rfl
@[simp] theorem szz_119 : szz Tryz.prog 119 = some 1 := by kernel_rfl
@[simp] theorem isAg_119 : isAg Tryz.prog 119 = some false := by kernel_rfl
@[simp] theorem zeroC_119 : zeroC Tryz.prog 119 = some [.v .any] := by kernel_rfl
@[simp] theorem sz_120 : sz Tryz.prog 120 = some 1 := by kernel_rfl
@[simp] theorem bytes_120 : bytes Tryz.prog 120 = some 8 := by kernel_rfl
@[simp] theorem szz_120 : szz Tryz.prog 120 = some 1 := by kernel_rfl
@[simp] theorem isAg_120 : isAg Tryz.prog 120 = some false := by kernel_rfl
@[simp] theorem zeroC_120 : zeroC Tryz.prog 120 = some [.v .any] := by kernel_rfl
@[simp] theorem sz_121 : sz Tryz.prog 121 = some 1 := by kernel_rfl
@[simp] theorem bytes_121 : bytes Tryz.prog 121 = some 8 := by kernel_rfl
@[simp] theorem szz_121 : szz Tryz.prog 121 = some 1 := by kernel_rfl
@[simp] theorem isAg_121 : isAg Tryz.prog 121 = some false := by kernel_rfl
@[simp] theorem zeroC_121 : zeroC Tryz.prog 121 = some [.v .any] := by kernel_rfl
@[simp] theorem sz_123 : sz Tryz.prog 123 = some 1 := by kernel_rfl
@[simp] theorem bytes_123 : bytes Tryz.prog 123 = some 8 := by kernel_rfl
@[simp] theorem szz_123 : szz Tryz.prog 123 = some 1 := by kernel_rfl
@[simp] theorem isAg_123 : isAg Tryz.prog 123 = some false := by kernel_rfl
@[simp] theorem zeroC_123 : zeroC Tryz.prog 123 = some [.v .any] := by kernel_rfl
@[simp] theorem sz_125 : sz Tryz.prog 125 = some 1 := by kernel_rfl
@[simp] theorem bytes_125 : bytes Tryz.prog 125 = some 8 := by kernel_rfl
@[simp] theorem szz_125 : szz Tryz.prog 125 = some 1 := by kernel_rfl
@[simp] theorem isAg_125 : isAg Tryz.prog 125 = some false := by kernel_rfl
@[simp] theorem intK_125 : intK Tryz.prog 125 = some .u64 := by kernel_rfl
@[simp] theorem zeroC_125 : zeroC Tryz.prog 125 = some [.v (.int .u64 0)] := by kernel_rfl
@[simp] theorem sz_126 : sz Tryz.prog 126 = some 1 := by kernel_rfl
@[simp] theorem bytes_126 : bytes Tryz.prog 126 = some 8 := by kernel_rfl
@[simp] theorem szz_126 : szz Tryz.prog 126 = some 1 := by kernel_rfl
@[simp] theorem isAg_126 : isAg Tryz.prog 126 = some false := by kernel_rfl
@[simp] theorem zeroC_126 : zeroC Tryz.prog 126 = some [.v .any] := by kernel_rfl
@[simp] theorem sz_127 : sz Tryz.prog 127 = some 1 := by kernel_rfl
@[simp] theorem bytes_127 : bytes Tryz.prog 127 = some 8 := by kernel_rfl
@[simp] theorem szz_127 : szz Tryz.prog 127 = some 1 := by kernel_rfl
@[simp] theorem isAg_127 : isAg Tryz.prog 127 = some false := by kernel_rfl
@[simp] theorem zeroC_127 : zeroC Tryz.prog 127 = some [.v .any] := by kernel_rfl
@[simp] theorem sz_129 : sz Tryz.prog 129 = some 1 := by kernel_rfl
@[simp] theorem bytes_129 : bytes Tryz.prog 129 = some 8 := by kernel_rfl
@[simp] theorem szz_129 : szz Tryz.prog 129 = some 1 := by kernel_rfl
@[simp] theorem isAg_129 : isAg Tryz.prog 129 = some false := by kernel_rfl
@[simp] theorem zeroC_129 : zeroC Tryz.prog 129 = some [.v .any] := by kernel_rfl
@[simp] theorem sz_131 : sz Tryz.prog 131 = some 1 := by kernel_rfl
@[simp] theorem bytes_131 : bytes Tryz.prog 131 = some 8 := by kernel_rfl
@[simp] theorem szz_131 : szz Tryz.prog 131 = some 1 := by kernel_rfl
@[simp] theorem isAg_131 : isAg Tryz.prog 131 = some false := by kernel_rfl
@[simp] theorem zeroC_131 : zeroC Tryz.prog 131 = some [.v .any] := by kernel_rfl
@[simp] theorem sz_132 : sz Tryz.prog 132 = some 1 := by kernel_rfl
@[simp] theorem bytes_132 : bytes Tryz.prog 132 = some 8 := by kernel_rfl
@[simp] theorem szz_132 : szz Tryz.prog 132 = some 1 := by kernel_rfl
@[simp] theorem isAg_132 : isAg Tryz.prog 132 = some false := by kernel_rfl
@[simp] theorem zeroC_132 : zeroC Tryz.prog 132 = some [.v .any] := by kernel_rfl
@[simp] theorem sz_133 : sz Tryz.prog 133 = some 1 := by kernel_rfl
@[simp] theorem bytes_133 : bytes Tryz.prog 133 = some 8 := by kernel_rfl
@[simp] theorem szz_133 : szz Tryz.prog 133 = some 1 := by kernel_rfl
@[simp] theorem isAg_133 : isAg Tryz.prog 133 = some false := by kernel_rfl
@[simp] theorem zeroC_133 : zeroC Tryz.prog 133 = some [.v .any] := by kernel_rfl
@[simp] theorem sz_134 : sz Tryz.prog 134 = some 1 := by kernel_rfl
@[simp] theorem bytes_134 : bytes Tryz.prog 134 = some 24 := by kernel_rfl
@[simp] theorem szz_134 : szz Tryz.prog 134 = some 1 := by kernel_rfl
@[simp] theorem isAg_134 : isAg Tryz.prog 134 = some false := by kernel_rfl
@[simp] theorem elT_134 : elT Tryz.prog 134 = some 4 := by kernel_rfl
@[simp] theorem isStr_134 : isStr Tryz.prog 134 = some false := by kernel_rfl
@[simp] theorem zeroC_134 : zeroC Tryz.prog 134 = some [.nil] := by kernel_rfl
@[simp] theorem sz_135 : sz Tryz.prog 135 = some 1 := by kernel_rfl
@[simp] theorem bytes_135 : bytes Tryz.prog 135 = some 8 := by kernel_rfl
@[simp] theorem szz_135 : szz Tryz.prog 135 = some 1 := by kernel_rfl
@[simp] theorem isAg_135 : isAg Tryz.prog 135 = some false := by kernel_rfl
@[simp] theorem zeroC_135 : zeroC Tryz.prog 135 = some [.v .any] := by kernel_rfl
@[simp] theorem sz_136 : sz Tryz.prog 136 = some 1 := by kernel_rfl
@[simp] theorem bytes_136 : bytes Tryz.prog 136 = some 8 := by kernel_rfl
@[simp] theorem szz_136 : szz Tryz.prog 136 = some 1 := by kernel_rfl
@[simp] theorem isAg_136 : isAg Tryz.prog 136 = some false := by kernel_rfl
@[simp] theorem zeroC_136 : zeroC Tryz.prog 136 = some [.v .any] := by kernel_rfl
@[simp] theorem sz_138 : sz Tryz.prog 138 = some 1 := by kernel_rfl
@[simp] theorem bytes_138 : bytes Tryz.prog 138 = some 4 := by kernel_rfl
@[simp] theorem szz_138 : szz Tryz.prog 138 = some 1 := by kernel_rfl
@[simp] theorem isAg_138 : isAg Tryz.prog 138 = some false := by kernel_rfl
@[simp] theorem intK_138 : intK Tryz.prog 138 = some .u32 := by kernel_rfl
@[simp] theorem zeroC_138 : zeroC Tryz.prog 138 = some [.v (.int .u32 0)] := by kernel_rfl
@[simp] theorem sz_140 : sz Tryz.prog 140 = some 1 := by kernel_rfl
@[simp] theorem bytes_140 : bytes Tryz.prog 140 = some 8 := by kernel_rfl
@[simp] theorem szz_140 : szz Tryz.prog 140 = some 1 := by kernel_rfl
@[simp] theorem isAg_140 : isAg Tryz.prog 140 = some false := by kernel_rfl
@[simp] theorem zeroC_140 : zeroC Tryz.prog 140 = some [.v .any] := by kernel_rfl
@[simp] theorem sz_141 : sz Tryz.prog 141 = some 1 := by kernel_rfl
@[simp] theorem bytes_141 : bytes Tryz.prog 141 = some 8 := by kernel_rfl
@[simp] theorem szz_141 : szz Tryz.prog 141 = some 1 := by kernel_rfl
@[simp] theorem isAg_141 : isAg Tryz.prog 141 = some false := by kernel_rfl
@[simp] theorem zeroC_141 : zeroC Tryz.prog 141 = some [.v .any] := by kernel_rfl
@[simp] theorem sz_149 : sz Tryz.prog 149 = some 1 := by kernel_rfl
@[simp] theorem bytes_149 : bytes Tryz.prog 149 = some 8 := by kernel_rfl
@[simp] theorem szz_149 : szz Tryz.prog 149 = some 1 := by kernel_rfl
@[simp] theorem isAg_149 : isAg Tryz.prog 149 = some false := by kernel_rfl
@[simp] theorem zeroC_149 : zeroC Tryz.prog 149 = some [.v .any] := by kernel_rfl
@[simp] theorem sz_152 : sz Tryz.prog 152 = some 1 := by kernel_rfl
@[simp] theorem bytes_152 : bytes Tryz.prog 152 = some 8 := by kernel_rfl
@[simp] theorem szz_152 : szz Tryz.prog 152 = some 1 := by kernel_rfl
@[simp] theorem isAg_152 : isAg Tryz.prog 152 = some false := by kernel_rfl
@[simp] theorem zeroC_152 : zeroC Tryz.prog 152 = some [.v .any] := by kernel_rfl
end TL

set_option linter.unusedSimpArgs false
set_option linter.unusedVariables false
set_option maxRecDepth 100000
namespace TL
open Go Go.Proofs
theorem peopleOk_fn (p : Int) : FnZ Tryz.prog 60 [.int .i64 p] (.bool (decide (1 ≤ p) && decide (p ≤ 4))) := by
  refine FnZ_of (rs := [.tmp 2]) false Tryz.func60 rfl rfl rfl rfl (Nat.le_of_ble_eq_true rfl) ?_
  simp -dsimp
  refine iteP_intro (fun h => ?_) (fun h => ?_) <;> simp -dsimp [h]
theorem w64 {x : Int} (h1 : -9223372036854775808 ≤ x) (h2 : x ≤ 9223372036854775807) : IntKind.wrap .i64 x = x := by rw [IntKind.wrap_i64]; omega
def codeV (bs : List UInt8) : V := .sl (bs.map fun b => .int .u8 b.toNat)
theorem codeZ (bs : List UInt8) : allZ 1 (bs.map fun b => V.int .u8 b.toNat) := by
  intro x hx; obtain ⟨b, _, rfl⟩ := List.mem_map.1 hx; simp [V.cells, V.cell]
/-- The reader of codes. -/
theorem open_fn (bs : List UInt8) (m : Mem) (n : Nat) : FnS Tryz.prog 17 m n [.v (.sl (bs.map fun b => .int .u8 b.toNat))] (fun t m' n' => t = .ptr n 0 ∧ n' = n + 1 ∧ m' = updM m n (some (.box 70 2 [.v (.sl ((bs.take 2000).map fun b => .int .u8 b.toNat)), .v (.int .i64 0)]))) := by
  refine FnS_of (rs := [.tmp 2]) false Tryz.func17 rfl rfl rfl rfl (Nat.le_of_ble_eq_true rfl) ?_
  simp -dsimp
  refine iteP_intro (fun h => ?_) (fun h => ?_)
  · simp -dsimp at h
    have h' : (2000 : Int) ≤ bs.length := by omega
    simp -dsimp [h']
  · simp -dsimp at h
    have : bs.take 2000 = bs := List.take_of_length_le (by omega)
    simp -dsimp [this]
/-- What the reader says. -/
def rdNum (bs : List UInt8) (p : Nat) (k : Int) : Int :=
  if k < 1 ∨ bs.length = 0 then 0
  else if p < bs.length then ((bs.getD p 0).toNat : Int) % k
  else 0
theorem tmod_range (a k : Int) (h0 : 0 ≤ a) (hk : 1 ≤ k) : 0 ≤ a.tmod k ∧ (1 ≤ k → a.tmod k < k) := by
  rw [Int.tmod_eq_emod_of_nonneg h0]
  exact ⟨Int.emod_nonneg _ (by omega), fun _ => Int.emod_lt_of_pos _ (by omega)⟩
theorem tmod_nat (a b : Nat) (hb : 0 < b) : ∃ q : Nat, q < b ∧ (a : Int).tmod b = q := ⟨a % b, Nat.mod_lt _ hb, by rw [Int.tmod_eq_emod_of_nonneg (by omega)]; rfl⟩
theorem tdiv_nat (a b : Nat) : ∃ q : Nat, q ≤ a ∧ (a : Int).tdiv b = q := ⟨a / b, Nat.div_le_self _ _, by rw [Int.tdiv_eq_ediv_of_nonneg (by omega)]; rfl⟩
theorem xor64 (a b k : Int) (ha : 0 ≤ a) (ha' : a < 4611686018427387904) (hb : 0 ≤ b) (hb' : b < 4611686018427387904) (hk : 1 ≤ k) :
    0 ≤ (IntKind.wrap .i64 (((a % 2 ^ IntKind.i64.bits).toNat ^^^ (b % 2 ^ IntKind.i64.bits).toNat : Nat) : Int)).tmod k ∧ (1 ≤ k → (IntKind.wrap .i64 (((a % 2 ^ IntKind.i64.bits).toNat ^^^ (b % 2 ^ IntKind.i64.bits).toNat : Nat) : Int)).tmod k < k) := by
  obtain ⟨a, rfl⟩ := Int.eq_ofNat_of_zero_le ha
  obtain ⟨b, rfl⟩ := Int.eq_ofNat_of_zero_le hb
  have h1 : a < 2 ^ 62 := by omega
  have h2 : b < 2 ^ 62 := by omega
  have h3 := Nat.xor_lt_two_pow h1 h2
  have e1 : ((a : Int) % 2 ^ IntKind.i64.bits).toNat = a := by simp only [IntKind.bits]; omega
  have e2 : ((b : Int) % 2 ^ IntKind.i64.bits).toNat = b := by simp only [IntKind.bits]; omega
  rw [e1, e2, w64 (by omega) (by omega)]
  exact tmod_range _ _ (by omega) hk
theorem pick_facts (p c1 c2 q3 : Nat) (hp : p < 1000000000) (h1 : c1 < 256) (h2 : c2 < 256) (h3 : q3 ≤ p) :
    (IntKind.wrap .i64 ((p : Int) * 7) = p * 7) ∧
    (IntKind.wrap .i64 ((p : Int) * 7 + 3) = p * 7 + 3) ∧
    (IntKind.wrap .i64 (c1 : Int) = c1) ∧
    (IntKind.wrap .i64 ((c1 : Int) * 131) = c1 * 131) ∧
    (IntKind.wrap .i64 (c2 : Int) = c2) ∧
    (IntKind.wrap .i64 ((c2 : Int) * 1117) = c2 * 1117) ∧
    (IntKind.wrap .i64 ((c1 : Int) * 131 + c2 * 1117) = c1 * 131 + c2 * 1117) ∧
    (IntKind.wrap .i64 ((p : Int) * 29) = p * 29) ∧
    (IntKind.wrap .i64 ((c1 : Int) * 131 + c2 * 1117 + p * 29) = c1 * 131 + c2 * 1117 + p * 29) ∧
    (IntKind.wrap .i64 (q3 : Int) = q3) ∧
    (IntKind.wrap .i64 ((q3 : Int) * 53) = q3 * 53) ∧
    (IntKind.wrap .i64 ((c1 : Int) * 131 + c2 * 1117 + p * 29 + q3 * 53) = c1 * 131 + c2 * 1117 + p * 29 + q3 * 53) := by
  refine ⟨w64 ?_ ?_, w64 ?_ ?_, w64 ?_ ?_, w64 ?_ ?_, w64 ?_ ?_, w64 ?_ ?_, w64 ?_ ?_, w64 ?_ ?_, w64 ?_ ?_, w64 ?_ ?_, w64 ?_ ?_, w64 ?_ ?_⟩ <;> omega
theorem pick_fn (bs : List UInt8) (p : Nat) (hp : p < 1000000000) (k : Int) (m : Mem) (n rid : Nat) (hm : m rid = some (.box 70 2 [.v (.sl (bs.map fun b => .int .u8 b.toNat)), .v (.int .i64 p)])) :
    FnS Tryz.prog 42 m n [.ptr rid 0, .v (.int .i64 k)] (fun t m' n' => n ≤ n' ∧ (∃ r : Int, t = .v (.int .i64 r) ∧ 0 ≤ r ∧ (1 ≤ k → r < k)) ∧ m' = updM m rid (some (.box 70 2 [.v (.sl (bs.map fun b => .int .u8 b.toNat)), .v (.int .i64 (p + 1))]))) := by
  have w1 : IntKind.wrap .i64 ((p : Int) + 1) = p + 1 := by rw [IntKind.wrap_i64]; omega
  have w2 : IntKind.wrap .i64 (p : Int) = p := by rw [IntKind.wrap_i64]; omega
  by_cases hk : k < 1
  · refine FnS_of (rs := [.tmp 4]) false Tryz.func42 rfl rfl rfl rfl (Nat.le_of_ble_eq_true rfl) ?_
    simp -dsimp [hm, w1, w2, hk]
    omega
  have k0 : ¬ k = 0 := by omega
  by_cases hb : bs = []
  · refine FnS_of (rs := [.tmp 4]) false Tryz.func42 rfl rfl rfl rfl (Nat.le_of_ble_eq_true rfl) ?_
    simp -dsimp [hm, w1, w2, hk, hb]
    omega
  have hpos : 0 < bs.length := List.length_pos_iff.2 hb
  by_cases hq : (p : Int) < bs.length
  · have hlt : p < bs.length := by omega
    have hget : bs[p]? = some bs[p] := List.getElem?_eq_getElem hlt
    have w3 : IntKind.wrap .i64 (bs[p].toNat : Int) = bs[p].toNat := by have := UInt8.toNat_lt bs[p]; rw [IntKind.wrap_i64]; omega
    have hp0 : (0 : Int) ≤ p := by omega
    refine FnS_of (rs := [.tmp 4]) false Tryz.func42 rfl rfl rfl rfl (Nat.le_of_ble_eq_true rfl) ?_
    simp -dsimp [hm, w1, w2, hk, hb, hq, hget, w3, k0, hlt]
    exact tmod_range _ _ (by omega) (by omega)
  have hlt : ¬ p < bs.length := by omega
  have b0 : ¬ (bs.length : Int) = 0 := by omega
  obtain ⟨q1, l1, hr⟩ := tmod_nat p bs.length hpos
  obtain ⟨q2, l2, hr2⟩ := tmod_nat (p * 7 + 3) bs.length hpos
  obtain ⟨q3, l3, hr3⟩ := tdiv_nat p bs.length
  have e7 : ((p * 7 + 3 : Nat) : Int) = (p : Int) * 7 + 3 := by omega
  have hr2' : ((p : Int) * 7 + 3).tmod bs.length = q2 := by rw [← e7]; exact hr2
  have g1 : bs[q1]? = some bs[q1] := List.getElem?_eq_getElem l1
  have g2 : bs[q2]? = some bs[q2] := List.getElem?_eq_getElem l2
  have u1 := UInt8.toNat_lt bs[q1]
  have u2 := UInt8.toNat_lt bs[q2]
  obtain ⟨v1, v2, v3, v4, v5, v6, v7, v8, v9, v10, v11, v12⟩ := pick_facts p _ _ q3 hp u1 u2 l3
  refine FnS_of (rs := [.tmp 4]) false Tryz.func42 rfl rfl rfl rfl (Nat.le_of_ble_eq_true rfl) ?_
  simp -dsimp [hm, w1, w2, hk, hb, hq, hlt]
  refine twp_draw (List.range 46) [rid] (List.replicate 46 [0]) (List.replicate 46 [0]) (by kernel_rfl) (by kernel_rfl) (by kernel_rfl) (by kernel_rfl) ?_
  simp -dsimp [hm, w1, w2, hk, hb, hq, hlt, k0, b0, hr, hr2', hr3, g1, g2, List.range_succ, l1, l2, v1, v2, v3, v4, v5, v6, v7, v8, v9, v10, v11, v12]
  have q64 : 0 ≤ ((bs[q1].toNat : Int) * 131 + bs[q2].toNat * 1117 + p * 29 + q3 * 53).tdiv 64 ∧ ((bs[q1].toNat : Int) * 131 + bs[q2].toNat * 1117 + p * 29 + q3 * 53).tdiv 64 < 4611686018427387904 := by
    rw [Int.tdiv_eq_ediv_of_nonneg (by omega)]; omega
  rw [w64 (x := Int.tdiv _ 64) (by omega) (by omega)]
  exact xor64 _ _ k (by omega) (by omega) q64.1 q64.2 (by omega)
end TL

/- Data of the program; the reader of codes. -/
set_option linter.unusedSimpArgs false
set_option linter.unusedVariables false
set_option maxRecDepth 100000
set_option maxHeartbeats 4000000
namespace TL
open Go Go.Proofs
structure Mark where
  kind : Int
  num : Int
  deriving DecidableEq
structure Claim where
  who : Int
  says : List Mark
  deriving DecidableEq
structure Place where
  people : Int
  story : List Claim
  deriving DecidableEq
/-- Numbers of the machine. -/
def fit (x : Int) : Prop := -9223372036854775808 ≤ x ∧ x < 9223372036854775808
def Mark.fit (m : Mark) : Prop := TL.fit m.kind ∧ TL.fit m.num
def fits (l : List Mark) : Prop := ∀ x ∈ l, x.fit
def Claim.fit (c : Claim) : Prop := TL.fit c.who ∧ fits c.says
def Place.fit (p : Place) : Prop := TL.fit p.people ∧ ∀ c ∈ p.story, c.fit
@[simp] theorem fits_nil : fits [] := by simp [fits]
@[simp] theorem fits_cons (x : Mark) (l : List Mark) : fits (x :: l) ↔ x.fit ∧ fits l := by simp [fits]
@[simp] theorem fits_append (a b : List Mark) : fits (a ++ b) ↔ fits a ∧ fits b := by simp [fits, or_imp, forall_and]
theorem fit_mk {k a : Int} (hk : 0 ≤ k) (hk' : k < 1000) (ha : 0 ≤ a) (ha' : a < 1000) : Mark.fit ⟨k, a⟩ := by
  refine ⟨⟨?_, ?_⟩, ⟨?_, ?_⟩⟩ <;> simp only <;> omega
def Mark.v (m : Mark) : V := .agg [.int .i64 m.kind, .int .i64 m.num]
@[simp] theorem mark_cells (m : Mark) : m.v.cells = [.int .i64 m.kind, .int .i64 m.num] := rfl
theorem drop_cons {α : Type} {l : List α} {i : Nat} (h : i < l.length) : l.drop i = l[i] :: l.drop (i + 1) := List.drop_eq_getElem_cons h
def marksV (l : List Mark) : V := .sl (l.map Mark.v)
def Claim.v (c : Claim) : V := .agg [.int .i64 c.who, marksV c.says]
def storyV (l : List Claim) : V := .sl (l.map Claim.v)
def Place.v (p : Place) : V := .agg [.int .i64 p.people, storyV p.story]
@[simp] theorem updM_idem (m : Mem) (d : Nat) (x y : Option Blk) : updM (updM m d x) d y = updM m d y := by
  funext t; simp only [updM_lit]; split <;> rfl
theorem updM_self {m : Mem} {d : Nat} {x : Option Blk} (h : m d = x) : updM m d x = m := by
  funext t; simp only [updM_lit]; split
  · rename_i e; rw [e, h]
  · rfl
/-- What a reader of codes is in memory. -/
abbrev rdB (bs : List UInt8) (p : Nat) : Blk := .box 70 2 [.v (.sl (bs.map fun b => .int .u8 b.toNat)), .v (.int .i64 p)]
/-- Behind at most K reads. -/
def RdTo (K : Nat) (m : Mem) (rid : Nat) (bs : List UInt8) (p : Nat) (m' : Mem) : Prop := ∃ p', p ≤ p' ∧ p' ≤ p + K ∧ m' = updM m rid (some (rdB bs p'))
theorem pick_at (bs : List UInt8) (p : Nat) (hp : p < 1000000000) (k : Int) (m : Mem) (n rid : Nat) (hm : m rid = some (rdB bs p)) :
    FnS Tryz.prog 42 m n [.ptr rid 0, .v (.int .i64 k)] (fun t m' n' => n ≤ n' ∧ (∃ r : Int, t = .v (.int .i64 r) ∧ 0 ≤ r ∧ (1 ≤ k → r < k)) ∧ m' = updM m rid (some (rdB bs (p + 1)))) :=
  pick_fn bs p hp k m n rid hm
theorem odd_at (bs : List UInt8) (p : Nat) (hp : p < 1000000000) (k : Int) (hk : k < 1000000) (m : Mem) (n rid : Nat) (hm : m rid = some (rdB bs p)) :
    FnS Tryz.prog 36 m n [.ptr rid 0, .v (.int .i64 k)] (fun t m' n' => n ≤ n' ∧ (∃ b : Bool, t = .v (.bool b) ∧ (k ≤ 0 → b = false)) ∧ RdTo 1 m rid bs p m') := by
  by_cases h : 0 < k
  · have hn : ¬ k ≤ 0 := by omega
    refine FnS_of (rs := [.tmp 4]) false Tryz.func36 rfl rfl rfl rfl (Nat.le_of_ble_eq_true rfl) ?_
    simp -dsimp [h]
    refine callS_ (pick_at bs p hp k m n rid hm) ?_
    rintro t m' n' ⟨hn', ⟨r, rfl, _, _⟩, rfl⟩
    simp -dsimp [h, hn]
    exact ⟨hn', p + 1, by omega, by omega, rfl⟩
  · have hn : k ≤ 0 := by omega
    refine FnS_of (rs := [.tmp 4]) false Tryz.func36 rfl rfl rfl rfl (Nat.le_of_ble_eq_true rfl) ?_
    simp -dsimp [h, hn]
    exact ⟨p, by omega, by omega, (updM_self hm).symm⟩
def natOf : T → Nat
  | .v (.int _ k) => k.toNat
  | .sv _ _ n => n
  | _ => 0
@[simp] theorem natOf_int (k : IntKind) (x : Int) : natOf (.v (.int k x)) = x.toNat := rfl
@[simp] theorem natOf_sv (i c n : Nat) : natOf (.sv i c n) = n := rfl
/-- What lies from n on. -/
def upper (n : Nat) (m : Mem) : Mem := fun j => if n ≤ j then m j else none
@[simp] theorem upper_def (n j : Nat) (m : Mem) : upper n m j = if n ≤ j then m j else none := rfl
/-- A row in the frame's memory, or none yet. -/
def IsRow (m : Mem) (lo hi : Nat) (e : Nat) (st : T) (xs : List V) : Prop := (st = .nil ∧ xs = []) ∨ ∃ i, st = .loc i ∧ lo ≤ i ∧ i < hi ∧ m i = some (.arr e xs)
theorem IsRow.cell {m : Mem} {lo hi e : Nat} {st : T} {xs : List V} (h : IsRow m lo hi e st xs) : st.cell = true := by
  rcases h with ⟨rfl, _⟩ | ⟨i, rfl, _⟩ <;> rfl
theorem IsRow.bor {m m' : Mem} {lo hi e n0 : Nat} {st : T} {xs : List V} (h : IsRow m lo hi e st xs) (hn : n0 ≤ lo) (hm : ∀ i, st = .loc i → lo ≤ i → i < hi → m' i = m i) (d : Nat) : bor true (upper n0 m') d st = some (.sl xs) := by
  rcases h with ⟨rfl, rfl⟩ | ⟨i, rfl, h1, h2, h3⟩
  · simp
  · have : n0 ≤ i := by omega
    simp [hm i rfl h1 h2, h3, this]
theorem nes (n : Nat) : (¬ n = n + 1) ∧ (¬ n = n + 1 + 1) ∧ (¬ n = n + 1 + 1 + 1) ∧ (¬ n = n + 1 + 1 + 1 + 1) ∧ (¬ n = n + 1 + 1 + 1 + 1 + 1) ∧ (¬ n = n + 1 + 1 + 1 + 1 + 1 + 1) ∧ (¬ n = n + 1 + 1 + 1 + 1 + 1 + 1 + 1) ∧ (¬ n + 1 = n) ∧ (¬ n + 1 = n + 1 + 1) ∧ (¬ n + 1 = n + 1 + 1 + 1) ∧ (¬ n + 1 = n + 1 + 1 + 1 + 1) ∧ (¬ n + 1 = n + 1 + 1 + 1 + 1 + 1) ∧ (¬ n + 1 = n + 1 + 1 + 1 + 1 + 1 + 1) ∧ (¬ n + 1 = n + 1 + 1 + 1 + 1 + 1 + 1 + 1) ∧ (¬ n + 1 + 1 = n) ∧ (¬ n + 1 + 1 = n + 1) ∧ (¬ n + 1 + 1 = n + 1 + 1 + 1) ∧ (¬ n + 1 + 1 = n + 1 + 1 + 1 + 1) ∧ (¬ n + 1 + 1 = n + 1 + 1 + 1 + 1 + 1) ∧ (¬ n + 1 + 1 = n + 1 + 1 + 1 + 1 + 1 + 1) ∧ (¬ n + 1 + 1 = n + 1 + 1 + 1 + 1 + 1 + 1 + 1) ∧ (¬ n + 1 + 1 + 1 = n) ∧ (¬ n + 1 + 1 + 1 = n + 1) ∧ (¬ n + 1 + 1 + 1 = n + 1 + 1) ∧ (¬ n + 1 + 1 + 1 = n + 1 + 1 + 1 + 1) ∧ (¬ n + 1 + 1 + 1 = n + 1 + 1 + 1 + 1 + 1) ∧ (¬ n + 1 + 1 + 1 = n + 1 + 1 + 1 + 1 + 1 + 1) ∧ (¬ n + 1 + 1 + 1 = n + 1 + 1 + 1 + 1 + 1 + 1 + 1) ∧ (¬ n + 1 + 1 + 1 + 1 = n) ∧ (¬ n + 1 + 1 + 1 + 1 = n + 1) ∧ (¬ n + 1 + 1 + 1 + 1 = n + 1 + 1) ∧ (¬ n + 1 + 1 + 1 + 1 = n + 1 + 1 + 1) ∧ (¬ n + 1 + 1 + 1 + 1 = n + 1 + 1 + 1 + 1 + 1) ∧ (¬ n + 1 + 1 + 1 + 1 = n + 1 + 1 + 1 + 1 + 1 + 1) ∧ (¬ n + 1 + 1 + 1 + 1 = n + 1 + 1 + 1 + 1 + 1 + 1 + 1) ∧ (¬ n + 1 + 1 + 1 + 1 + 1 = n) ∧ (¬ n + 1 + 1 + 1 + 1 + 1 = n + 1) ∧ (¬ n + 1 + 1 + 1 + 1 + 1 = n + 1 + 1) ∧ (¬ n + 1 + 1 + 1 + 1 + 1 = n + 1 + 1 + 1) ∧ (¬ n + 1 + 1 + 1 + 1 + 1 = n + 1 + 1 + 1 + 1) ∧ (¬ n + 1 + 1 + 1 + 1 + 1 = n + 1 + 1 + 1 + 1 + 1 + 1) ∧ (¬ n + 1 + 1 + 1 + 1 + 1 = n + 1 + 1 + 1 + 1 + 1 + 1 + 1) ∧ (¬ n + 1 + 1 + 1 + 1 + 1 + 1 = n) ∧ (¬ n + 1 + 1 + 1 + 1 + 1 + 1 = n + 1) ∧ (¬ n + 1 + 1 + 1 + 1 + 1 + 1 = n + 1 + 1) ∧ (¬ n + 1 + 1 + 1 + 1 + 1 + 1 = n + 1 + 1 + 1) ∧ (¬ n + 1 + 1 + 1 + 1 + 1 + 1 = n + 1 + 1 + 1 + 1) ∧ (¬ n + 1 + 1 + 1 + 1 + 1 + 1 = n + 1 + 1 + 1 + 1 + 1) ∧ (¬ n + 1 + 1 + 1 + 1 + 1 + 1 = n + 1 + 1 + 1 + 1 + 1 + 1 + 1) ∧ (¬ n + 1 + 1 + 1 + 1 + 1 + 1 + 1 = n) ∧ (¬ n + 1 + 1 + 1 + 1 + 1 + 1 + 1 = n + 1) ∧ (¬ n + 1 + 1 + 1 + 1 + 1 + 1 + 1 = n + 1 + 1) ∧ (¬ n + 1 + 1 + 1 + 1 + 1 + 1 + 1 = n + 1 + 1 + 1) ∧ (¬ n + 1 + 1 + 1 + 1 + 1 + 1 + 1 = n + 1 + 1 + 1 + 1) ∧ (¬ n + 1 + 1 + 1 + 1 + 1 + 1 + 1 = n + 1 + 1 + 1 + 1 + 1) ∧ (¬ n + 1 + 1 + 1 + 1 + 1 + 1 + 1 = n + 1 + 1 + 1 + 1 + 1 + 1) := by
  refine ⟨?_, ?_, ?_, ?_, ?_, ?_, ?_, ?_, ?_, ?_, ?_, ?_, ?_, ?_, ?_, ?_, ?_, ?_, ?_, ?_, ?_, ?_, ?_, ?_, ?_, ?_, ?_, ?_, ?_, ?_, ?_, ?_, ?_, ?_, ?_, ?_, ?_, ?_, ?_, ?_, ?_, ?_, ?_, ?_, ?_, ?_, ?_, ?_, ?_, ?_, ?_, ?_, ?_, ?_, ?_, ?_⟩ <;> omega
theorem ft (b : Bool) : b = false ∨ b = true := by cases b <;> simp
theorem far {a n : Nat} (lt : a < n) : (¬ a = n) ∧ (¬ n = a) ∧ (∀ x0, ¬ a = n + x0) ∧ (∀ x0, ¬ n + x0 = a) ∧ (∀ x0 x1, ¬ a = n + x0 + x1) ∧ (∀ x0 x1, ¬ n + x0 + x1 = a) ∧ (∀ x0 x1 x2, ¬ a = n + x0 + x1 + x2) ∧ (∀ x0 x1 x2, ¬ n + x0 + x1 + x2 = a) ∧ (∀ x0 x1 x2 x3, ¬ a = n + x0 + x1 + x2 + x3) ∧ (∀ x0 x1 x2 x3, ¬ n + x0 + x1 + x2 + x3 = a) ∧ (∀ x0 x1 x2 x3 x4, ¬ a = n + x0 + x1 + x2 + x3 + x4) ∧ (∀ x0 x1 x2 x3 x4, ¬ n + x0 + x1 + x2 + x3 + x4 = a) ∧ (∀ x0 x1 x2 x3 x4 x5, ¬ a = n + x0 + x1 + x2 + x3 + x4 + x5) ∧ (∀ x0 x1 x2 x3 x4 x5, ¬ n + x0 + x1 + x2 + x3 + x4 + x5 = a) ∧ (∀ x0 x1 x2 x3 x4 x5 x6, ¬ a = n + x0 + x1 + x2 + x3 + x4 + x5 + x6) ∧ (∀ x0 x1 x2 x3 x4 x5 x6, ¬ n + x0 + x1 + x2 + x3 + x4 + x5 + x6 = a) ∧ (∀ x0 x1 x2 x3 x4 x5 x6 x7, ¬ a = n + x0 + x1 + x2 + x3 + x4 + x5 + x6 + x7) ∧ (∀ x0 x1 x2 x3 x4 x5 x6 x7, ¬ n + x0 + x1 + x2 + x3 + x4 + x5 + x6 + x7 = a) ∧ (∀ x0 x1 x2 x3 x4 x5 x6 x7 x8, ¬ a = n + x0 + x1 + x2 + x3 + x4 + x5 + x6 + x7 + x8) ∧ (∀ x0 x1 x2 x3 x4 x5 x6 x7 x8, ¬ n + x0 + x1 + x2 + x3 + x4 + x5 + x6 + x7 + x8 = a) ∧ (∀ x0 x1 x2 x3 x4 x5 x6 x7 x8 x9, ¬ a = n + x0 + x1 + x2 + x3 + x4 + x5 + x6 + x7 + x8 + x9) ∧ (∀ x0 x1 x2 x3 x4 x5 x6 x7 x8 x9, ¬ n + x0 + x1 + x2 + x3 + x4 + x5 + x6 + x7 + x8 + x9 = a) :=
  ⟨by omega, by omega, fun _ => by omega, fun _ => by omega, fun _ _ => by omega, fun _ _ => by omega, fun _ _ _ => by omega, fun _ _ _ => by omega, fun _ _ _ _ => by omega, fun _ _ _ _ => by omega, fun _ _ _ _ _ => by omega, fun _ _ _ _ _ => by omega, fun _ _ _ _ _ _ => by omega, fun _ _ _ _ _ _ => by omega, fun _ _ _ _ _ _ _ => by omega, fun _ _ _ _ _ _ _ => by omega, fun _ _ _ _ _ _ _ _ => by omega, fun _ _ _ _ _ _ _ _ => by omega, fun _ _ _ _ _ _ _ _ _ => by omega, fun _ _ _ _ _ _ _ _ _ => by omega, fun _ _ _ _ _ _ _ _ _ _ => by omega, fun _ _ _ _ _ _ _ _ _ _ => by omega⟩
end TL

/- TL, part 22: rows that are made at once and filled one by one. -/
set_option linter.unusedVariables false
set_option linter.unusedSimpArgs false
namespace TL
open Go
theorem flat_len {k : Nat} : ∀ {bl : List (List T)}, (∀ x ∈ bl, x.length = k) → bl.flatten.length = bl.length * k
  | [], _ => by simp
  | b :: bl, h => by
    have h1 := h b (List.mem_cons_self ..)
    have h2 := flat_len (bl := bl) fun x hx => h x (List.mem_cons_of_mem _ hx)
    rw [List.flatten_cons, List.length_append, h1, h2, List.length_cons, Nat.succ_mul]; omega
theorem setAt_append (a b : List T) : ∀ (xs : List T) (off : Nat), a.length = off → xs.length ≤ b.length → setAt (a ++ b) off xs = a ++ xs ++ b.drop xs.length
  | [], off, h, _ => by simp [setAt]
  | x :: xs, off, h, hl => by
    cases b with
    | nil => simp at hl
    | cons y ys =>
      unfold setAt
      rw [List.set_append_right _ _ (by omega), show off - a.length = 0 by omega, List.set_cons_zero]
      have := setAt_append (a ++ [x]) ys xs (off + 1) (by simp; omega) (by simpa using hl)
      rw [show a ++ x :: ys = a ++ [x] ++ ys by simp, this]; simp
theorem setAt_flat {k : Nat} {bl : List (List T)} {i : Nat} {b : List T} (h : ∀ x ∈ bl, x.length = k) (hb : b.length = k) (hi : i < bl.length) : setAt bl.flatten (i * k) b = (bl.set i b).flatten := by
  have e1 : bl = bl.take i ++ bl[i] :: bl.drop (i + 1) := by rw [← List.drop_eq_getElem_cons hi, List.take_append_drop]
  have l1 : (bl.take i).flatten.length = i * k := by rw [flat_len (k := k) fun x hx => h x (List.mem_of_mem_take hx), List.length_take]; congr 1; omega
  have l2 : bl[i].length = k := h _ (List.getElem_mem _)
  have e2 : bl.flatten = (bl.take i).flatten ++ (bl[i] ++ (bl.drop (i + 1)).flatten) := by
    have e4 : bl.flatten = (bl.take i ++ bl[i] :: bl.drop (i + 1)).flatten := by rw [← e1]
    rw [e4, List.flatten_append, List.flatten_cons]
  have e3 : bl.set i b = bl.take i ++ b :: bl.drop (i + 1) := by rw [List.set_eq_take_append_cons_drop, if_pos hi]
  rw [e2, setAt_append _ _ b _ l1 (by simp; omega), e3, hb]
  rw [List.drop_append_of_le_length (by omega), List.drop_eq_nil_of_le (by omega)]
  simp
/-- The cells of an element. -/
def cellsT (x : V) : List T := x.cells.map .v
/-- A row of which the first i are filled. -/
def filled {α : Type} (v : α → V) (zs : List T) (l : List α) (i : Nat) : List (List T) := (l.take i).map (fun a => cellsT (v a)) ++ List.replicate (l.length - i) zs
/-- Elements of k cells. -/
def ElemOk {α : Type} (v : α → V) (k : Nat) : Prop := ∀ a, (v a).cells.length = k ∧ (∀ c ∈ (v a).cells, c.cell = true) ∧ (if k = 1 then (v a).cells = [v a] else v a = .agg (v a).cells)
theorem filled_len {α : Type} {v : α → V} {zs : List T} {l : List α} {i : Nat} (hi : i ≤ l.length) : (filled v zs l i).length = l.length := by
  simp [filled]; omega
theorem filled_all {α : Type} {v : α → V} {zs : List T} {l : List α} {i k : Nat} (hv : ElemOk v k) (hz : zs.length = k) : ∀ x ∈ filled v zs l i, x.length = k := by
  intro x hx
  rcases List.mem_append.1 hx with hx | hx
  · obtain ⟨a, _, rfl⟩ := List.mem_map.1 hx
    simp [cellsT, (hv a).1]
  · rw [(List.mem_replicate.1 hx).2, hz]
theorem filled_zero {α : Type} (v : α → V) (zs : List T) (l : List α) : (filled v zs l 0).flatten = (List.replicate l.length zs).flatten := by simp [filled]
theorem filled_flat_len {α : Type} {v : α → V} {zs : List T} {l : List α} {i k : Nat} (hv : ElemOk v k) (hz : zs.length = k) (hi : i ≤ l.length) : (filled v zs l i).flatten.length = l.length * k := by
  rw [flat_len (filled_all hv hz), filled_len hi]
theorem filled_set {α : Type} {v : α → V} {zs : List T} {l : List α} {i k : Nat} (hv : ElemOk v k) (hz : zs.length = k) (hi : i < l.length) : setAt (filled v zs l i).flatten (i * k) (cellsT (v l[i])) = (filled v zs l (i + 1)).flatten := by
  rw [setAt_flat (filled_all hv hz) (by simp [cellsT, (hv _).1]) (by rw [filled_len (by omega)]; exact hi)]
  congr 1
  unfold filled
  rw [List.set_append_right _ _ (by simp; omega), List.take_succ_eq_append_getElem hi]
  rw [show l.length - i = (l.length - (i + 1)) + 1 by omega, List.replicate_succ]
  simp only [List.length_map, List.length_take, Nat.min_eq_left (Nat.le_of_lt hi), Nat.sub_self, List.set_cons_zero, List.map_append, List.map_cons, List.map_nil, List.append_assoc, List.cons_append, List.nil_append]
theorem filled_end {α : Type} (v : α → V) (zs : List T) (l : List α) : filled v zs l l.length = l.map fun a => cellsT (v a) := by simp [filled]
theorem mapO_cells {k : Bool} {m : Mem} {d : Nat} : ∀ (xs : List V), mapO (bor k m d) (xs.map .v) = some xs
  | [] => rfl
  | x :: xs => by simp [mapO, mapO_cells xs]
theorem cells_flat {α : Type} (v : α → V) : ∀ l : List α, (l.map fun a => cellsT (v a)).flatten = (l.flatMap fun a => (v a).cells).map T.v
  | [] => rfl
  | x :: xs => by simp only [List.map_cons, List.flatten_cons, cells_flat v xs, List.flatMap_cons, List.map_append]; rfl
theorem chunk_elems {α : Type} {v : α → V} {k : Nat} (hv : ElemOk v k) : ∀ l : List α, chunk k l.length (l.flatMap fun a => (v a).cells) = l.map v
  | [] => rfl
  | a :: l => by
    obtain ⟨h1, h2, h3⟩ := hv a
    simp only [List.length_cons, chunk, List.flatMap_cons, List.map_cons]
    rw [List.drop_append_of_le_length (by omega), List.drop_eq_nil_of_le (by omega), List.nil_append, chunk_elems hv l]
    congr 1
    by_cases hk : k = 1
    · rw [if_pos hk] at h3 ⊢; rw [h3]; rfl
    · rw [if_neg hk] at h3 ⊢
      rw [List.take_append_of_le_length (by omega), List.take_of_length_le (by omega), ← h3]
theorem bor_filled {α : Type} {v : α → V} {k : Nat} (hv : ElemOk v k) {m : Mem} {id e : Nat} {zs : List T} {l : List α} (d : Nat) (hm : m id = some (.box e k (filled v zs l l.length).flatten)) : bor true m (d + 1) (.sv id 0 l.length) = some (.sl (l.map v)) := by
  have hlen : (l.flatMap fun a => (v a).cells).length = l.length * k := by
    induction l with
    | nil => simp
    | cons a l ih => simp only [List.flatMap_cons, List.length_append, (hv a).1, List.length_cons, Nat.succ_mul]; rw [show (l.flatMap fun a => (v a).cells).length = l.length * k from ?_]; · omega
                     clear ih hm
                     induction l with
                     | nil => simp
                     | cons b l ih => simp only [List.flatMap_cons, List.length_append, (hv b).1, List.length_cons, Nat.succ_mul, ih]; omega
  unfold bor
  rw [hm]
  simp only [if_true, filled_end, cells_flat, List.length_map, hlen, Nat.zero_add, Nat.le_refl, tst_true, List.drop_zero]
  rw [List.take_of_length_le (by simp [hlen]), mapO_cells]
  simp only [obind_some]
  rw [tst_pos, chunk_elems hv]
  intro x hx
  obtain ⟨a, _, ha⟩ := List.mem_flatMap.1 hx
  exact (hv a).2.1 x ha
end TL

/- The functions by which the exact laws measure, turn and compare their arguments. -/
set_option linter.unusedSimpArgs false
set_option linter.unusedVariables false
set_option maxRecDepth 100000
set_option maxHeartbeats 4000000
set_option pp.maxSteps 1500
namespace TL
open Go Go.Proofs
attribute [local simp] marksV storyV codeV Claim.v Place.v
theorem elemOk_mark : ElemOk Mark.v 2 := fun a => ⟨rfl, by simp [Mark.v], by simp [Mark.v]⟩
theorem elemOk_claim : ElemOk Claim.v 2 := fun a => ⟨rfl, by simp, by simp⟩
theorem elemOk_place : ElemOk Place.v 2 := fun a => ⟨rfl, by simp, by simp⟩
theorem cellsT_mark (m : Mark) : cellsT m.v = [.v (.int .i64 m.kind), .v (.int .i64 m.num)] := rfl
theorem cellsT_claim (c : Claim) : cellsT c.v = [.v (.int .i64 c.who), .v (.sl (c.says.map Mark.v))] := rfl
theorem cellsT_place (p : Place) : cellsT p.v = [.v (.int .i64 p.people), .v (.sl (p.story.map Claim.v))] := rfl
/-- What is left of a measure. -/
def szR (left : Int) (n : Nat) : Int := if left - n < 0 then -1 else left - n
def Claim.small (c : Claim) : Prop := c.says.length ≤ 1048576
def Place.small (p : Place) : Prop := p.story.length ≤ 1048576 ∧ ∀ c ∈ p.story, c.small
theorem take_eq_succ {α : Type} {a b : List α} {i : Nat} (ha : i < a.length) (hb : i < b.length) (h : a.take i = b.take i) (he : a[i] = b[i]) : a.take (i + 1) = b.take (i + 1) := by
  rw [List.take_succ_eq_append_getElem ha, List.take_succ_eq_append_getElem hb, h, he]
def ItoMarkS (l : List Mark) (a : Nat) (s : S) : Prop := ∃ i : Nat, s.tm 0 = .v (.sl (l.map Mark.v)) ∧ s.tm 3 = .sv 0 0 l.length ∧ s.tm 4 = .v (.int .i64 i) ∧ i ≤ l.length ∧ s.m 0 = some (.box 90 2 (filled Mark.v [T.v (.int .i64 0), T.v (.int .i64 0)] l i).flatten) ∧ (a = 1 → i = l.length)
def ItoClaimS (l : List Claim) (a : Nat) (s : S) : Prop := ∃ i : Nat, s.tm 0 = .v (.sl (l.map Claim.v)) ∧ s.tm 3 = .sv 0 0 l.length ∧ s.tm 4 = .v (.int .i64 i) ∧ i ≤ l.length ∧ s.m 0 = some (.box 53 2 (filled Claim.v [T.v (.int .i64 0), T.nil] l i).flatten) ∧ (a = 1 → i = l.length)
def IeqMarkS (a b : List Mark) (e : Nat) (s : S) : Prop := ∃ i : Nat, s.tm 0 = .v (.sl (a.map Mark.v)) ∧ s.tm 1 = .v (.sl (b.map Mark.v)) ∧ s.tm 5 = .v (.int .i64 i) ∧ i ≤ a.length ∧ a.take i = b.take i ∧ (e = 1 → i = a.length)
def IeqClaimS (a b : List Claim) (e : Nat) (s : S) : Prop := ∃ i : Nat, s.tm 0 = .v (.sl (a.map Claim.v)) ∧ s.tm 1 = .v (.sl (b.map Claim.v)) ∧ s.tm 5 = .v (.int .i64 i) ∧ i ≤ a.length ∧ a.take i = b.take i ∧ (e = 1 → i = a.length)
end TL

/- Terms, claims, stories, places: what is one. -/
set_option linter.unusedSimpArgs false
set_option linter.unusedVariables false
set_option maxRecDepth 100000
set_option maxHeartbeats 4000000
set_option pp.maxSteps 1500
namespace TL
open Go Go.Proofs
attribute [local simp] marksV storyV codeV Claim.v Place.v
def peopleOk (p : Int) : Bool := decide (1 ≤ p) && decide (p ≤ 4)
def markStep (people : Int) (parts : Nat) (m : Mark) : Option Nat :=
  if m.kind = 0 then (if 0 ≤ m.num ∧ m.num < people then some (parts + 1) else none)
  else if m.kind = 1 then (if 0 ≤ m.num ∧ m.num ≤ people + 1 then some (parts + 1) else none)
  else if m.kind = 2 then (if m.num = 0 ∧ 1 ≤ parts then some parts else none)
  else if m.kind = 3 ∨ m.kind = 4 ∨ m.kind = 5 then (if m.num = 0 ∧ 2 ≤ parts then some (parts - 1) else none)
  else none
def marksRun (people : Int) : Nat → List Mark → Option Nat
  | parts, [] => some parts
  | parts, m :: ms => (markStep people parts m).bind fun q => marksRun people q ms
def termOk (people : Int) (t : List Mark) : Bool := peopleOk people && decide (1 ≤ t.length) && decide (t.length ≤ 15) && decide (marksRun people 0 t = some 1)
theorem markStep_le {people : Int} {parts q : Nat} {m : Mark} (h : markStep people parts m = some q) : q ≤ parts + 1 := by
  unfold markStep at h
  repeat' split at h
  all_goals first | (cases h; done) | (cases h; omega)
def TOI (people : Int) (t : List Mark) (a : Nat) (s : S) : Prop := ∃ (i parts : Nat), s.tm 0 = .v (.int .i64 people) ∧ s.tm 21 = .v (.sl (t.map Mark.v)) ∧ s.tm 22 = .v (.int .i64 t.length) ∧ s.tm 23 = .v (.int .i64 i) ∧ s.tm 5 = .v (.int .i64 parts) ∧ i ≤ t.length ∧ parts ≤ i ∧
  marksRun people parts (t.drop i) = marksRun people 0 t ∧ (a = 1 → i = t.length)
theorem termOk_fn (people : Int) (t : List Mark) : FnZ Tryz.prog 77 [.int .i64 people, marksV t] (.bool (termOk people t)) := by
  by_cases hp : 1 ≤ people ∧ people ≤ 4
  case neg =>
    have hk : peopleOk people = false := by simp only [peopleOk, Bool.and_eq_false_iff, decide_eq_false_iff_not]; omega
    have hr : termOk people t = false := by simp [termOk, hk]
    rw [hr]
    refine FnZ_of (rs := [.tmp 4]) false Tryz.func77 rfl rfl rfl rfl (Nat.le_of_ble_eq_true rfl) ?_
    simp -dsimp
    refine call_ (peopleOk_fn people) (by simp) ?_
    rw [show (decide (1 ≤ people) && decide (people ≤ 4)) = false from hk]
    simp -dsimp
  have hk : peopleOk people = true := by simp [peopleOk, hp]
  by_cases hl : 1 ≤ t.length ∧ t.length ≤ 15
  case neg =>
    have hr : termOk people t = false := by
      simp only [termOk, hk, Bool.true_and, Bool.and_eq_false_iff, decide_eq_false_iff_not]; omega
    rw [hr]
    refine FnZ_of (rs := [.tmp 4]) false Tryz.func77 rfl rfl rfl rfl (Nat.le_of_ble_eq_true rfl) ?_
    simp -dsimp
    refine call_ (peopleOk_fn people) (by simp) ?_
    rw [show (decide (1 ≤ people) && decide (people ≤ 4)) = true from hk]
    by_cases h0 : (t.length : Int) < 1
    · simp -dsimp [h0]
    · have h1 : (15 : Int) < t.length := by omega
      simp -dsimp [h0, h1]
  have h0 : ¬ (t.length : Int) < 1 := by omega
  have h1 : ¬ (15 : Int) < t.length := by omega
  have h1' : (t.length : Int) ≤ 15 := by omega
  have hr : termOk people t = decide (marksRun people 0 t = some 1) := by simp [termOk, hk, hl]
  rw [hr]
  refine FnZ_of (rs := [.tmp 4]) false Tryz.func77 rfl rfl rfl rfl (Nat.le_of_ble_eq_true rfl) ?_
  simp -dsimp
  refine call_ (peopleOk_fn people) (by simp) ?_
  rw [show (decide (1 ≤ people) && decide (people ≤ 4)) = true from hk]
  simp -dsimp [h0, h1, h1']
  refine twp_loopC (TOI people t 0) (fun s => t.length - natOf (s.tm 23)) (TOI people t 1) ?_ ?_ ?_
  · exact ⟨0, 0, by simp -dsimp, by simp -dsimp, by simp -dsimp, by simp -dsimp, by simp -dsimp, by simp, by simp, by simp, by simp⟩
  · rintro s ⟨i, parts, h0, h21, h22, h23, h5, hi, hpi, hrun, hend⟩
    by_cases hlt : i < t.length
    case neg =>
      simp -dsimp [h23, h22, hlt]
      exact ⟨i, parts, by simp [h0], by simp [h21], by simp [h22], by simp [h23], by simp [h5], hi, hpi, hrun, fun _ => by omega⟩
    have hget : (t.map Mark.v)[i]? = some (.agg [.int .i64 t[i].kind, .int .i64 t[i].num]) := by simp [Mark.v, hlt]
    have hstep := hrun
    rw [drop_cons hlt] at hstep
    simp only [marksRun] at hstep
    have wi : IntKind.wrap .i64 ((i : Int) + 1) = ((i + 1 : Nat) : Int) := by rw [w64 (by omega) (by omega)]; omega
    have wp : IntKind.wrap .i64 ((parts : Int) + 1) = ((parts + 1 : Nat) : Int) := by rw [w64 (by omega) (by omega)]; omega
    have wq : IntKind.wrap .i64 ((parts : Int) - 1) = if 1 ≤ parts then ((parts - 1 : Nat) : Int) else -1 := by rw [w64 (by omega) (by omega)]; split <;> omega
    have hmu : t.length - (i + 1) < t.length - i := by omega
    by_cases k0 : t[i].kind = 0
    · by_cases a0 : 0 ≤ t[i].num ∧ t[i].num < people
      · have hs : markStep people parts t[i] = some (parts + 1) := by simp [markStep, k0, a0]
        rw [hs] at hstep
        simp -dsimp [h0, h5, h23, h22, h21, hlt, hget, wi, wp, wq, k0, show ¬ t[i].num < 0 by omega, show ¬ people ≤ t[i].num by omega, hmu]
        exact ⟨i + 1, parts + 1, by simp -dsimp [h0], by simp -dsimp [h21], by simp -dsimp [h22], by simp -dsimp, by simp -dsimp [h5], by omega, by omega, hstep, by simp⟩
      · have hs : markStep people parts t[i] = none := by simp only [markStep, k0, if_neg a0, if_true]
        rw [hs] at hstep
        have hn : marksRun people 0 t = none := hstep.symm
        by_cases a1 : t[i].num < 0
        · simp -dsimp [h0, h5, h23, h22, h21, hlt, hget, wi, wp, wq, k0, a1, hn]
        · simp -dsimp [h0, h5, h23, h22, h21, hlt, hget, wi, wp, wq, k0, a1, hn, show people ≤ t[i].num by omega]
    by_cases k1 : t[i].kind = 1
    · have w1 : IntKind.wrap .i64 (people + 1) = people + 1 := w64 (by omega) (by omega)
      by_cases a0 : 0 ≤ t[i].num ∧ t[i].num ≤ people + 1
      · have hs : markStep people parts t[i] = some (parts + 1) := by simp [markStep, k1, a0]
        rw [hs] at hstep
        simp -dsimp [h0, h5, h23, h22, h21, hlt, hget, wi, wp, wq, k1, w1, show ¬ t[i].num < 0 by omega, show ¬ people + 1 < t[i].num by omega, hmu]
        exact ⟨i + 1, parts + 1, by simp -dsimp [h0], by simp -dsimp [h21], by simp -dsimp [h22], by simp -dsimp, by simp -dsimp [h5], by omega, by omega, hstep, by simp⟩
      · have hs : markStep people parts t[i] = none := by simp only [markStep, k1, if_neg a0, if_true]; simp
        rw [hs] at hstep
        have hn : marksRun people 0 t = none := hstep.symm
        by_cases a1 : t[i].num < 0
        · simp -dsimp [h0, h5, h23, h22, h21, hlt, hget, wi, wp, wq, k1, a1, hn]
        · simp -dsimp [h0, h5, h23, h22, h21, hlt, hget, wi, wp, wq, k1, a1, hn, w1, show people + 1 < t[i].num by omega]
    by_cases k2 : t[i].kind = 2
    · by_cases a0 : t[i].num = 0 ∧ 1 ≤ parts
      · have hs : markStep people parts t[i] = some (parts) := by simp [markStep, k2, a0]
        rw [hs] at hstep
        simp -dsimp [h0, h5, h23, h22, h21, hlt, hget, wi, wp, wq, k2, a0.1, show ¬ (parts : Int) < 1 by omega, show ¬ parts = 0 by omega, hmu]
        exact ⟨i + 1, parts, by simp -dsimp [h0], by simp -dsimp [h21], by simp -dsimp [h22], by simp -dsimp, by simp -dsimp [h5], by omega, by omega, hstep, by simp⟩
      · have hs : markStep people parts t[i] = none := by simp only [markStep, k2, if_neg a0, if_true]; simp
        rw [hs] at hstep
        have hn : marksRun people 0 t = none := hstep.symm
        by_cases a1 : t[i].num = 0
        · simp -dsimp [h0, h5, h23, h22, h21, hlt, hget, wi, wp, wq, k2, a1, hn, show (parts : Int) < 1 by omega, show parts = 0 by omega]
        · simp -dsimp [h0, h5, h23, h22, h21, hlt, hget, wi, wp, wq, k2, a1, hn]
    by_cases k3 : t[i].kind = 3 ∨ t[i].kind = 4 ∨ t[i].kind = 5
    · by_cases a0 : t[i].num = 0 ∧ 2 ≤ parts
      · have hs : markStep people parts t[i] = some (parts - 1) := by simp [markStep, k0, k1, k2, k3, a0]
        rw [hs] at hstep
        have e1 : ¬ (parts : Int) < 2 := by omega
        have e2 : 1 ≤ parts := by omega
        rcases k3 with k3 | k3 | k3
        all_goals
          simp -dsimp [h0, h5, h23, h22, h21, hlt, hget, wi, wp, wq, k3, a0.1, e1, e2, hmu]
          exact ⟨i + 1, parts - 1, by simp -dsimp [h0], by simp -dsimp [h21], by simp -dsimp [h22], by simp -dsimp, by simp -dsimp [h5], by omega, by omega, hstep, by simp⟩
      · have hs : markStep people parts t[i] = none := by simp only [markStep, if_neg k0, if_neg k1, if_neg k2, if_pos k3, if_neg a0]
        rw [hs] at hstep
        have hn : marksRun people 0 t = none := hstep.symm
        by_cases a1 : t[i].num = 0
        · have e1 : (parts : Int) < 2 := by omega
          rcases k3 with k3 | k3 | k3 <;> simp -dsimp [h0, h5, h23, h22, h21, hlt, hget, wi, wp, wq, k3, a1, hn, e1]
        · rcases k3 with k3 | k3 | k3 <;> simp -dsimp [h0, h5, h23, h22, h21, hlt, hget, wi, wp, wq, k3, a1, hn]
    · have hs : markStep people parts t[i] = none := by simp only [markStep, if_neg k0, if_neg k1, if_neg k2, if_neg k3]
      rw [hs] at hstep
      have hn : marksRun people 0 t = none := hstep.symm
      have k3' := not_or.1 k3
      have k4' := not_or.1 k3'.2
      simp -dsimp [h0, h5, h23, h22, h21, hlt, hget, wi, wp, wq, k0, k1, k2, k3'.1, k4'.1, k4'.2, hn]
  · rintro s ⟨i, parts, h0, h21, h22, h23, h5, hi, hpi, hrun, hend⟩
    simp -dsimp [h5]
    have := hend rfl
    subst this
    simp [marksRun] at hrun
    rw [← hrun]; simp; omega
end TL

/- spec: terms, claims, stories, places. -/
set_option linter.unusedSimpArgs false
set_option linter.unusedVariables false
set_option maxRecDepth 100000
set_option maxHeartbeats 4000000
set_option pp.maxSteps 1500
namespace TL
open Go Go.Proofs
attribute [local simp] marksV storyV codeV Claim.v Place.v
def inR (n a b : Int) : Bool := decide (a ≤ n) && decide (n ≤ b)
theorem inR_true {n a b : Int} : inR n a b = true ↔ a ≤ n ∧ n ≤ b := by simp [inR]
theorem inR_false {n a b : Int} : inR n a b = false ↔ ¬ (a ≤ n ∧ n ≤ b) := by rw [← inR_true]; cases inR n a b <;> simp
theorem l1In_fn (n a b : Int) : FnZ Tryz.prog 54 [.int .i64 n, .int .i64 a, .int .i64 b] (.bool (inR n a b)) := by
  unfold inR
  refine FnZ_of (rs := [.tmp 6]) false Tryz.func54 rfl rfl rfl rfl (Nat.le_of_ble_eq_true rfl) ?_
  by_cases h : a ≤ n <;> simp -dsimp [h]
theorem termOk_eq (people : Int) (t : List Mark) : termOk people t = (peopleOk people && decide (marksRun people 0 t = some 1) && decide (t.length ≤ 15)) := by
  cases t with
  | nil => simp [termOk, marksRun]
  | cons x xs =>
    rw [Bool.eq_iff_iff]
    simp only [termOk, Bool.and_eq_true, decide_eq_true_eq, List.length_cons]
    constructor
    · rintro ⟨⟨⟨h1, h2⟩, h3⟩, h4⟩; exact ⟨⟨h1, h4⟩, h3⟩
    · rintro ⟨⟨h1, h4⟩, h3⟩; exact ⟨⟨⟨h1, by omega⟩, h3⟩, h4⟩
def TOS (people : Int) (t : List Mark) (a : Nat) (s : S) : Prop := ∃ (i parts : Nat), s.tm 0 = .v (.int .i64 people) ∧ s.tm 1 = .v (.sl (t.map Mark.v)) ∧ s.tm 6 = .v (.int .i64 i) ∧ s.tm 5 = .v (.int .i64 parts) ∧ i ≤ t.length ∧ parts ≤ i ∧
  marksRun people parts (t.drop i) = marksRun people 0 t ∧ (a = 1 → i = t.length)
theorem termOkS_fn (people : Int) (t : List Mark) (hf : fits t) (hl : t.length < 1000000000000) : FnZ Tryz.prog 81 [.int .i64 people, marksV t] (.bool (termOk people t)) := by
  rw [termOk_eq]
  refine FnZ_of (rs := [.tmp 4]) false Tryz.func81 rfl rfl rfl rfl (Nat.le_of_ble_eq_true rfl) ?_
  simp -dsimp
  refine twp_loopC (TOS people t 0) (fun s => t.length - natOf (s.tm 6)) (TOS people t 1) ?_ ?_ ?_
  · exact ⟨0, 0, by simp -dsimp, by simp -dsimp, by simp -dsimp, by simp -dsimp, by simp, by simp, by simp, by simp⟩
  · rintro s ⟨i, parts, h0, h1, h6, h5, hi, hpi, hrun, hend⟩
    by_cases hlt : i < t.length
    case neg =>
      simp -dsimp [h1, h6, hlt]
      exact ⟨i, parts, by simp -dsimp [h0], by simp -dsimp [h1], by simp -dsimp [h6], by simp -dsimp [h5], hi, hpi, hrun, fun _ => by omega⟩
    have hget : (t.map Mark.v)[i]? = some (.agg [.int .i64 t[i].kind, .int .i64 t[i].num]) := by simp [Mark.v, hlt]
    have hv : t[i].v = .agg [.int .i64 t[i].kind, .int .i64 t[i].num] := rfl
    have hfi := hf t[i] (List.getElem_mem _)
    have hfa := hfi.2
    unfold TL.fit at hfa
    have hstep := hrun
    rw [drop_cons hlt] at hstep
    simp only [marksRun] at hstep
    have wi : IntKind.wrap .i64 ((i : Int) + 1) = ((i + 1 : Nat) : Int) := by rw [w64 (by omega) (by omega)]; omega
    have wp : IntKind.wrap .i64 ((parts : Int) + 1) = ((parts + 1 : Nat) : Int) := by rw [w64 (by omega) (by omega)]; omega
    have wq : 2 ≤ parts → IntKind.wrap .i64 ((parts : Int) - 1) = ((parts - 1 : Nat) : Int) := fun h => by rw [w64 (by omega) (by omega)]; omega
    have hmu : t.length - (i + 1) < t.length - i := by omega
    have bad : markStep people parts t[i] = none → marksRun people 0 t = none := fun hs => by rw [hs] at hstep; exact hstep.symm
    by_cases k0 : t[i].kind = 0
    · by_cases a0 : 0 ≤ t[i].num ∧ t[i].num < people
      · have hs : markStep people parts t[i] = some (parts + 1) := by simp [markStep, k0, a0]
        rw [hs] at hstep
        simp -dsimp [h0, h1, h5, h6, hlt, hget, wi, wp, k0, a0.1, a0.2, hmu]
        exact ⟨i + 1, parts + 1, by simp -dsimp [h0], by simp -dsimp [h1], by simp -dsimp, by simp -dsimp [h5], by omega, by omega, hstep, by simp⟩
      · have hn := bad (by simp only [markStep, k0, if_neg a0, if_true])
        by_cases a1 : 0 ≤ t[i].num
        · have a2 : ¬ t[i].num < people := by omega
          simp -dsimp [h0, h1, h5, h6, hlt, hget, wi, wp, k0, a1, a2]
          refine call_ (l1In_fn _ _ _) (by simp -dsimp <;> exact ⟨rfl, rfl, rfl⟩) ?_
          simp -dsimp [k0, hn, show inR 0 3 5 = false from rfl]
        · simp -dsimp [h0, h1, h5, h6, hlt, hget, wi, wp, k0, a1]
          refine call_ (l1In_fn _ _ _) (by simp -dsimp <;> exact ⟨rfl, rfl, rfl⟩) ?_
          simp -dsimp [k0, hn, show inR 0 3 5 = false from rfl]
    by_cases k1 : t[i].kind = 1
    · have w1 : IntKind.wrap .i64 (t[i].num - 1) = if 0 ≤ t[i].num then t[i].num - 1 else IntKind.wrap .i64 (t[i].num - 1) := by
        split
        · exact w64 (by omega) (by omega)
        · rfl
      by_cases a0 : 0 ≤ t[i].num ∧ t[i].num ≤ people + 1
      · have hs : markStep people parts t[i] = some (parts + 1) := by simp [markStep, k1, a0]
        rw [hs] at hstep
        have w2 : IntKind.wrap .i64 (t[i].num - 1) = t[i].num - 1 := w64 (by omega) (by omega)
        by_cases a1 : t[i].num ≤ people
        · simp -dsimp [h0, h1, h5, h6, hlt, hget, wi, wp, k1, a0.1, a1, hmu]
          exact ⟨i + 1, parts + 1, by simp -dsimp [h0], by simp -dsimp [h1], by simp -dsimp, by simp -dsimp [h5], by omega, by omega, hstep, by simp⟩
        · have a2 : t[i].num - 1 = people := by omega
          simp -dsimp [h0, h1, h5, h6, hlt, hget, wi, wp, k1, a0.1, show ¬ t[i].num ≤ people from a1, w2.trans a2, hmu]
          exact ⟨i + 1, parts + 1, by simp -dsimp [h0], by simp -dsimp [h1], by simp -dsimp, by simp -dsimp [h5], by omega, by omega, hstep, by simp⟩
      · have hn := bad (by simp only [markStep, k1, if_neg a0, if_true]; simp)
        by_cases a1 : 0 ≤ t[i].num
        · have a2 : ¬ t[i].num ≤ people := by omega
          have a3 : ¬ t[i].num - 1 = people := by omega
          have w2 : IntKind.wrap .i64 (t[i].num - 1) = t[i].num - 1 := w64 (by omega) (by omega)
          simp -dsimp [h0, h1, h5, h6, hlt, hget, wi, wp, k1, a1, a2, w2, a3]
          refine call_ (l1In_fn _ _ _) (by simp -dsimp <;> exact ⟨rfl, rfl, rfl⟩) ?_
          simp -dsimp [k1, hn, show inR 1 3 5 = false from rfl]
        · simp -dsimp [h0, h1, h5, h6, hlt, hget, wi, wp, k1, a1]
          refine call_ (l1In_fn _ _ _) (by simp -dsimp <;> exact ⟨rfl, rfl, rfl⟩) ?_
          simp -dsimp [k1, hn, show inR 1 3 5 = false from rfl]
    by_cases k2 : t[i].kind = 2
    · by_cases a0 : t[i].num = 0 ∧ 1 ≤ parts
      · have hs : markStep people parts t[i] = some parts := by simp [markStep, k2, a0]
        rw [hs] at hstep
        have e1 : (1 : Int) ≤ parts := by omega
        simp -dsimp [h0, h1, h5, h6, hlt, hget, wi, wp, hv, k2, a0.1, e1, hmu]
        exact ⟨i + 1, parts, by simp -dsimp [h0], by simp -dsimp [h1], by simp -dsimp, by simp -dsimp [h5], by omega, by omega, hstep, by simp⟩
      · have hn := bad (by simp only [markStep, k2, if_neg a0, if_true]; simp)
        by_cases a1 : t[i].num = 0
        · have e1 : ¬ (1 : Int) ≤ parts := by omega
          simp -dsimp [h0, h1, h5, h6, hlt, hget, wi, wp, hv, k2, a1, e1]
          refine call_ (l1In_fn _ _ _) (by simp -dsimp <;> exact ⟨rfl, rfl, rfl⟩) ?_
          simp -dsimp [k2, hn, show inR 2 3 5 = false from rfl]
        · simp -dsimp [h0, h1, h5, h6, hlt, hget, wi, wp, hv, k2, a1]
          refine call_ (l1In_fn _ _ _) (by simp -dsimp <;> exact ⟨rfl, rfl, rfl⟩) ?_
          simp -dsimp [k2, hn, show inR 2 3 5 = false from rfl]
    have hk2 : (decide (t[i].kind = 2)) = false := by simp [k2]
    by_cases k3 : t[i].kind = 3 ∨ t[i].kind = 4 ∨ t[i].kind = 5
    · have hin : inR t[i].kind 3 5 = true := inR_true.2 (by omega)
      by_cases a0 : t[i].num = 0 ∧ 2 ≤ parts
      · have hs : markStep people parts t[i] = some (parts - 1) := by simp [markStep, k0, k1, k2, k3, a0]
        rw [hs] at hstep
        have e1 : (2 : Int) ≤ parts := by omega
        have wq := wq a0.2
        simp -dsimp [h0, h1, h5, h6, hlt, hget, wi, wp, hv, k0, k1, k2]
        refine call_ (l1In_fn _ _ _) (by simp -dsimp <;> exact ⟨rfl, rfl, rfl⟩) ?_
        simp -dsimp [h0, h1, h5, h6, hlt, hget, wi, wp, hin, a0.1, e1, wq, hmu]
        exact ⟨i + 1, parts - 1, by simp -dsimp [h0], by simp -dsimp [h1], by simp -dsimp, by simp -dsimp [h5], by omega, by omega, hstep, by simp⟩
      · have hn := bad (by simp only [markStep, if_neg k0, if_neg k1, if_neg k2, if_pos k3, if_neg a0])
        simp -dsimp [h0, h1, h5, h6, hlt, hget, wi, wp, hv, k0, k1, k2]
        refine call_ (l1In_fn _ _ _) (by simp -dsimp <;> exact ⟨rfl, rfl, rfl⟩) ?_
        by_cases a1 : t[i].num = 0
        · have e1 : ¬ (2 : Int) ≤ parts := by omega
          simp -dsimp [h0, h1, h5, h6, hlt, hget, wi, wp, hin, a1, e1, hn]
        · simp -dsimp [h0, h1, h5, h6, hlt, hget, wi, wp, hin, a1, hn]
    · have hn := bad (by simp only [markStep, if_neg k0, if_neg k1, if_neg k2, if_neg k3])
      have hin : inR t[i].kind 3 5 = false := inR_false.2 (by omega)
      simp -dsimp [h0, h1, h5, h6, hlt, hget, wi, wp, hv, k0, k1, k2]
      refine call_ (l1In_fn _ _ _) (by simp -dsimp <;> exact ⟨rfl, rfl, rfl⟩) ?_
      simp -dsimp [hin, hn]
  · rintro s ⟨i, parts, h0, h1, h6, h5, hi, hpi, hrun, hend⟩
    have := hend rfl
    subst this
    simp [marksRun] at hrun
    simp -dsimp [h0]
    refine call_ (l1In_fn _ _ _) (by simp -dsimp <;> exact ⟨rfl, rfl, rfl⟩) ?_
    have hpk : inR people 1 4 = peopleOk people := rfl
    have hk := ft (peopleOk people)
    rcases hk with hk | hk
    · simp -dsimp [hpk, hk, ← hrun]
    · by_cases e1 : parts = 1
      · have e2 : (parts : Int) = 1 := by omega
        simp -dsimp [h1, h5, e1, hpk, hk, ← hrun]; omega
      · have e2 : ¬ (parts : Int) = 1 := by omega
        simp -dsimp [h1, h5, e1, e2, hpk, hk, ← hrun]
end TL

/- Claims, stories, places: what is one. -/
set_option linter.unusedSimpArgs false
set_option linter.unusedVariables false
set_option maxRecDepth 100000
set_option maxHeartbeats 4000000
set_option pp.maxSteps 1500
namespace TL
open Go Go.Proofs
attribute [local simp] marksV storyV codeV Claim.v Place.v
theorem peopleOk_at (p : Int) : FnZ Tryz.prog 60 [.int .i64 p] (.bool (peopleOk p)) := peopleOk_fn p
def claimOk (people : Int) (c : Claim) : Bool := peopleOk people && decide (0 ≤ c.who) && decide (c.who < people) && termOk people c.says && decide (c.says.length ≤ 13)
def storyOk (people : Int) (story : List Claim) : Bool := story.all (claimOk people) && peopleOk people && decide (story.length ≤ 6)
def placeOk (p : Place) : Bool := storyOk p.people p.story
/-- Rows that fit into a machine. -/
def Claim.fine (c : Claim) : Prop := fits c.says ∧ c.says.length < 1000000000000
def Place.fine (p : Place) : Prop := p.story.length < 1000000000000 ∧ ∀ c ∈ p.story, c.fine
theorem claimOk_fn (people : Int) (c : Claim) : FnZ Tryz.prog 61 [.int .i64 people, c.v] (.bool (claimOk people c)) := by
  refine FnZ_of (rs := [.tmp 4]) false Tryz.func61 rfl rfl rfl rfl (Nat.le_of_ble_eq_true rfl) ?_
  have hk := ft (peopleOk people)
  rcases hk with hk | hk
  · simp -dsimp
    refine call_ (peopleOk_at people) (by simp -dsimp) ?_
    simp -dsimp [hk, claimOk]
  · by_cases h1 : 0 ≤ c.who
    case neg =>
      simp -dsimp
      refine call_ (peopleOk_at people) (by simp -dsimp) ?_
      simp -dsimp [hk, claimOk, h1]
    by_cases h2 : c.who < people
    case neg =>
      simp -dsimp
      refine call_ (peopleOk_at people) (by simp -dsimp) ?_
      simp -dsimp [hk, claimOk, h1, h2]
    simp -dsimp
    refine call_ (peopleOk_at people) (by simp -dsimp) ?_
    simp -dsimp [hk, h1, h2]
    refine call_ (termOk_fn people c.says) (by simp -dsimp) ?_
    have ht := ft (termOk people c.says)
    rcases ht with ht | ht
    · simp -dsimp [hk, claimOk, h1, h2, ht]
    · simp -dsimp [hk, claimOk, h1, h2, ht]
      omega
theorem claimOk_eq (people : Int) (c : Claim) : claimOk people c = (decide (0 ≤ c.who) && decide (c.who < people) && termOk people c.says && decide (c.says.length ≤ 13)) := by
  unfold claimOk termOk
  cases peopleOk people <;> simp
theorem claimOkS_fn (people : Int) (c : Claim) (hc : c.fine) : FnZ Tryz.prog 63 [.int .i64 people, c.v] (.bool (claimOk people c)) := by
  rw [claimOk_eq]
  refine FnZ_of (rs := [.tmp 4]) false Tryz.func63 rfl rfl rfl rfl (Nat.le_of_ble_eq_true rfl) ?_
  by_cases h1 : 0 ≤ c.who
  case neg => simp -dsimp [h1]
  by_cases h2 : c.who < people
  case neg => simp -dsimp [h1, h2]
  simp -dsimp [h1, h2]
  refine call_ (termOkS_fn people c.says hc.1 hc.2) (by simp -dsimp) ?_
  have ht := ft (termOk people c.says)
  rcases ht with ht | ht
  · simp -dsimp [h1, h2, ht]
  · simp -dsimp [h1, h2, ht]
    omega
def SOI (people : Int) (l : List Claim) (a b c : Nat) (e : Nat) (s : S) : Prop := ∃ i : Nat, s.tm 0 = .v (.int .i64 people) ∧ s.tm a = .v (.sl (l.map Claim.v)) ∧ (c = 0 ∨ s.tm c = .v (.int .i64 l.length)) ∧ s.tm 1 = .v (.sl (l.map Claim.v)) ∧ s.tm b = .v (.int .i64 i) ∧ i ≤ l.length ∧ (l.take i).all (claimOk people) = true ∧ (e = 1 → i = l.length)
theorem all_take_succ {α : Type} {l : List α} {f : α → Bool} {i : Nat} (h : i < l.length) : (l.take (i + 1)).all f = ((l.take i).all f && f l[i]) := by
  rw [List.take_succ_eq_append_getElem h]; simp only [List.all_append, List.all_cons, List.all_nil, Bool.and_true]
theorem all_bad {α : Type} {l : List α} {f : α → Bool} {i : Nat} (h : i < l.length) (hf : f l[i] = false) : l.all f = false := by
  rw [List.all_eq_false]; exact ⟨l[i], List.getElem_mem _, by simp [hf]⟩
theorem storyOk_fn (people : Int) (l : List Claim) (hl : l.length < 1000000000000) : FnZ Tryz.prog 34 [.int .i64 people, storyV l] (.bool (storyOk people l)) := by
  refine FnZ_of (rs := [.tmp 4]) false Tryz.func34 rfl rfl rfl rfl (Nat.le_of_ble_eq_true rfl) ?_
  simp -dsimp
  refine twp_loopC (SOI people l 7 9 8 0) (fun s => l.length - natOf (s.tm 9)) (SOI people l 7 9 8 1) ?_ ?_ ?_
  · exact ⟨0, by simp -dsimp, by simp -dsimp, .inr (by simp -dsimp), by simp -dsimp, by simp -dsimp, by simp, by simp, by simp⟩
  · rintro s ⟨i, h0, h7, h8, h1, h9, hi, hall, hend⟩
    have h8 := h8.resolve_left (by decide)
    by_cases hlt : i < l.length
    case neg =>
      simp -dsimp [h9, h8, hlt]
      exact ⟨i, by simp -dsimp [h0], by simp -dsimp [h7], .inr (by simp -dsimp [h8]), by simp -dsimp [h1], by simp -dsimp [h9], hi, hall, fun _ => by omega⟩
    have hget : (l.map Claim.v)[i]? = some l[i].v := by simp [hlt]
    have hcl : l[i].v = .agg [.int .i64 l[i].who, .sl (l[i].says.map Mark.v)] := rfl
    have hall' := all_take_succ (f := claimOk people) hlt
    have wi : IntKind.wrap .i64 ((i : Int) + 1) = ((i + 1 : Nat) : Int) := by rw [w64 (by omega) (by omega)]; omega
    have hmu : l.length - (i + 1) < l.length - i := by omega
    have hbad := all_bad (f := claimOk people) hlt
    simp -dsimp [h9, h8, h7, h0, hlt, hget]
    refine call_ (claimOk_fn people l[i]) (by simp -dsimp) ?_
    have hc := ft (claimOk people l[i])
    rcases hc with hc | hc
    · simp -dsimp [hc, storyOk, hbad hc]
    · simp -dsimp [hc, h9, wi, hmu]
      exact ⟨i + 1, by simp -dsimp [h0], by simp -dsimp [h7], .inr (by simp -dsimp [h8]), by simp -dsimp [h1], by simp -dsimp, by omega, by rw [hall', hall, hc]; rfl, by simp⟩
  · rintro s ⟨i, h0, h7, h8, h1, h9, hi, hall, hend⟩
    have := hend rfl
    subst this
    rw [List.take_length] at hall
    simp -dsimp [h0]
    refine call_ (peopleOk_at people) (by simp -dsimp) ?_
    have hk := ft (peopleOk people)
    rcases hk with hk | hk
    · simp -dsimp [storyOk, hk]
    · simp -dsimp [h1, storyOk, hk, hall]
      omega
theorem storyOkS_fn (people : Int) (l : List Claim) (hl : l.length < 1000000000000) (hf : ∀ c ∈ l, c.fine) : FnZ Tryz.prog 57 [.int .i64 people, storyV l] (.bool (storyOk people l)) := by
  refine FnZ_of (rs := [.tmp 4]) false Tryz.func57 rfl rfl rfl rfl (Nat.le_of_ble_eq_true rfl) ?_
  simp -dsimp
  refine twp_loopC (SOI people l 1 5 0 0) (fun s => l.length - natOf (s.tm 5)) (SOI people l 1 5 0 1) ?_ ?_ ?_
  · exact ⟨0, by simp -dsimp, by simp -dsimp, .inl rfl, by simp -dsimp, by simp -dsimp, by simp, by simp, by simp⟩
  · rintro s ⟨i, h0, h7, _, h1, h9, hi, hall, hend⟩
    by_cases hlt : i < l.length
    case neg =>
      simp -dsimp [h9, h1, hlt]
      exact ⟨i, by simp -dsimp [h0], by simp -dsimp [h7], .inl rfl, by simp -dsimp [h1], by simp -dsimp [h9], hi, hall, fun _ => by omega⟩
    have hget : (l.map Claim.v)[i]? = some l[i].v := by simp [hlt]
    have hcl : l[i].v = .agg [.int .i64 l[i].who, .sl (l[i].says.map Mark.v)] := rfl
    have hall' := all_take_succ (f := claimOk people) hlt
    have wi : IntKind.wrap .i64 ((i : Int) + 1) = ((i + 1 : Nat) : Int) := by rw [w64 (by omega) (by omega)]; omega
    have hmu : l.length - (i + 1) < l.length - i := by omega
    have hbad := all_bad (f := claimOk people) hlt
    simp -dsimp [h9, h1, h0, hlt, hget]
    refine call_ (claimOkS_fn people l[i] (hf _ (List.getElem_mem _))) (by simp -dsimp) ?_
    have hc := ft (claimOk people l[i])
    rcases hc with hc | hc
    · simp -dsimp [hc, storyOk, hbad hc]
    · simp -dsimp [hc, h9, wi, hmu]
      exact ⟨i + 1, by simp -dsimp [h0], by simp -dsimp [h7], .inl rfl, by simp -dsimp [h1], by simp -dsimp, by omega, by rw [hall', hall, hc]; rfl, by simp⟩
  · rintro s ⟨i, h0, h7, h8, h1, h9, hi, hall, hend⟩
    have := hend rfl
    subst this
    rw [List.take_length] at hall
    simp -dsimp [h0]
    refine call_ (l1In_fn people 1 4) (by simp -dsimp) ?_
    have hpk : inR people 1 4 = peopleOk people := rfl
    have hk := ft (peopleOk people)
    rcases hk with hk | hk
    · simp -dsimp [storyOk, hk, hpk]
    · simp -dsimp [h1, storyOk, hk, hall, hpk]
      omega
theorem placeOk_fn (p : Place) (hl : p.story.length < 1000000000000) : FnZ Tryz.prog 25 [p.v] (.bool (placeOk p)) := by
  refine FnZ_of (rs := [.tmp 2]) false Tryz.func25 rfl rfl rfl rfl (Nat.le_of_ble_eq_true rfl) ?_
  simp -dsimp
  refine call_ (storyOk_fn p.people p.story hl) (by simp -dsimp) ?_
  simp -dsimp [placeOk]
theorem placeOkS_fn (p : Place) (hp : p.fine) : FnZ Tryz.prog 30 [p.v] (.bool (placeOk p)) := by
  refine FnZ_of (rs := [.tmp 2]) false Tryz.func30 rfl rfl rfl rfl (Nat.le_of_ble_eq_true rfl) ?_
  simp -dsimp
  refine call_ (storyOkS_fn p.people p.story hp.1 hp.2) (by simp -dsimp) ?_
  simp -dsimp [placeOk]
end TL

/- Desks; what is one. -/
set_option linter.unusedSimpArgs false
set_option linter.unusedVariables false
set_option maxRecDepth 100000
set_option maxHeartbeats 4000000
set_option pp.maxSteps 1500
namespace TL
open Go Go.Proofs
attribute [local simp] marksV storyV codeV Claim.v Place.v
structure Desk where
  now : Place
  past : List Place
  deriving DecidableEq
def Desk.v (d : Desk) : V := .agg [.int .i64 d.now.people, storyV d.now.story, .sl (d.past.map Place.v)]
def Desk.small (d : Desk) : Prop := d.now.small ∧ d.past.length ≤ 1048576 ∧ ∀ p ∈ d.past, p.small
attribute [local simp] Desk.v
def deskOk (d : Desk) : Bool := d.past.all placeOk && placeOk d.now && decide (d.past.length ≤ 8)
def IdeskOk (d : Desk) (e : Nat) (s : S) : Prop := ∃ i : Nat, s.tm 1 = .ptr 0 0 ∧ s.m 0 = some (.box 28 3 [.v (.int .i64 d.now.people), .v (storyV d.now.story), .v (.sl (d.past.map Place.v))]) ∧ 1 ≤ s.n ∧ s.tm 6 = .v (.sl (d.past.map Place.v)) ∧ s.tm 7 = .v (.int .i64 d.past.length) ∧ s.tm 8 = .v (.int .i64 i) ∧
  i ≤ d.past.length ∧ (d.past.take i).all placeOk = true ∧ (e = 1 → i = d.past.length)
theorem deskOk_fn (d : Desk) (hl : d.past.length ≤ 1000000000000) (hn : d.now.story.length < 1000000000000) (hs : ∀ p ∈ d.past, p.story.length < 1000000000000) : FnZ Tryz.prog 9 [d.v] (.bool (deskOk d)) := by
  refine FnZ_of (rs := [.tmp 2]) false Tryz.func9 rfl rfl rfl rfl (Nat.le_of_ble_eq_true rfl) ?_
  simp -dsimp
  refine twp_loopC (IdeskOk d 0) (fun s => d.past.length - natOf (s.tm 8)) (IdeskOk d 1) ?_ ?_ ?_
  · exact ⟨0, by simp -dsimp, by simp -dsimp, by simp -dsimp, by simp -dsimp, by simp -dsimp, by simp -dsimp, by omega, by simp, by simp⟩
  · rintro s ⟨i, t1, m0, h1, t6, t7, t8, hi, hall, hend⟩
    by_cases hlt : i < d.past.length
    case neg =>
      simp -dsimp [t7, t8, hlt]
      exact ⟨i, by simp -dsimp [t1], by simp -dsimp [m0], by simp -dsimp; omega, by simp -dsimp [t6], by simp -dsimp [t7], by simp -dsimp [t8], hi, hall, fun _ => by omega⟩
    have hget : (d.past.map Place.v)[i]? = some (d.past[i].v) := by simp [hlt]
    have hall' := all_take_succ (f := placeOk) hlt
    have wi : IntKind.wrap .i64 ((i : Int) + 1) = ((i + 1 : Nat) : Int) := by rw [w64 (by omega) (by omega)]; omega
    have hmu : d.past.length - (i + 1) < d.past.length - i := by omega
    have hbad := all_bad (f := placeOk) hlt
    have f0 := far (show 0 < s.n by omega)
    simp -dsimp [t6, t7, t8, hlt, hget, f0, nes]
    refine call_ (placeOk_fn d.past[i] (hs _ (List.getElem_mem _))) (by simp -dsimp) ?_
    have hc := ft (placeOk d.past[i])
    rcases hc with hc | hc
    · simp -dsimp [hc, deskOk, hbad hc]
    · simp -dsimp [hc, t8, wi, hmu]
      exact ⟨i + 1, by simp -dsimp [t1], by simp -dsimp [m0, f0], by simp -dsimp, by simp -dsimp [t6], by simp -dsimp [t7], by simp -dsimp, by omega, by rw [hall', hall, hc]; rfl, by simp⟩
  · rintro s ⟨i, t1, m0, h1, t6, t7, t8, hi, hall, hend⟩
    have := hend rfl
    subst this
    rw [List.take_length] at hall
    simp -dsimp [t1, m0]
    refine call_ (placeOk_fn d.now hn) (by simp -dsimp) ?_
    have hk := ft (placeOk d.now)
    rcases hk with hk | hk
    · simp -dsimp [deskOk, hk]
    · simp -dsimp [t1, m0, deskOk, hk, hall]
      omega
end TL

/- Copies; desks. -/
set_option linter.unusedSimpArgs false
set_option linter.unusedVariables false
set_option maxRecDepth 100000
set_option maxHeartbeats 4000000
set_option pp.maxSteps 1500
namespace TL
open Go Go.Proofs
attribute [local simp] marksV storyV codeV Claim.v Place.v
attribute [local simp] Desk.v
def IsameMarks (a b : List Mark) (e : Nat) (s : S) : Prop := ∃ i : Nat, s.tm 0 = .v (.sl (a.map Mark.v)) ∧ s.tm 1 = .v (.sl (b.map Mark.v)) ∧ s.tm 5 = .v (.int .i64 i) ∧ i ≤ a.length ∧ a.take i = b.take i ∧ (e = 1 → i = a.length)
theorem sameMarks_fn (a b : List Mark) (hl : a.length ≤ 1048576) : FnZ Tryz.prog 94 [.sl (a.map Mark.v), .sl (b.map Mark.v)] (.bool (decide (a = b))) := by
  refine FnZ_of (rs := [.tmp 4]) false Tryz.func94 rfl rfl rfl rfl (Nat.le_of_ble_eq_true rfl) ?_
  by_cases hn : a.length = b.length
  case neg =>
    have e : decide (a = b) = false := by simp; rintro rfl; exact hn rfl
    have hn' : ¬ (a.length : Int) = b.length := by omega
    simp -dsimp [hn, hn', e]
  simp -dsimp [hn]
  refine twp_loopC (IsameMarks a b 0) (fun s => a.length - natOf (s.tm 5)) (IsameMarks a b 1) ?_ ?_ ?_
  · exact ⟨0, by simp -dsimp, by simp -dsimp, by simp -dsimp, by omega, by simp, by simp⟩
  · rintro s ⟨i, h0, h1, h5, hi, htk, hend⟩
    by_cases hlt : i < a.length
    case neg =>
      have hlt2 : ¬ i < b.length := by omega
      simp -dsimp [h0, h5, hlt, hlt2, hn]
      exact ⟨i, by simp -dsimp [h0], by simp -dsimp [h1], by simp -dsimp [h5], hi, htk, fun _ => by omega⟩
    have hlt2 : i < b.length := by omega
    have hgeta : (a.map Mark.v)[i]? = some (a[i].v) := by simp [hlt]
    have hgetb : (b.map Mark.v)[i]? = some (b[i].v) := by simp [hlt2]
    have wi : IntKind.wrap .i64 ((i : Int) + 1) = ((i + 1 : Nat) : Int) := by rw [w64 (by omega) (by omega)]; omega
    have hmu : a.length - (i + 1) < a.length - i := by omega
    simp -dsimp [h0, h5, hlt, hlt2, hn]
    refine twp_draw (List.range 9) [] (List.replicate 9 []) (List.replicate 9 []) (by kernel_rfl) (by kernel_rfl) (by kernel_rfl) (by kernel_rfl) ?_
    have va : a[i].v = .agg [.int .i64 a[i].kind, .int .i64 a[i].num] := rfl
    have vb : b[i].v = .agg [.int .i64 b[i].kind, .int .i64 b[i].num] := rfl
    by_cases k1 : a[i].kind = b[i].kind
    case neg =>
      have e : decide (a = b) = false := by simp; rintro rfl; exact k1 rfl
      simp -dsimp [List.range_succ, h0, h1, h5, hlt, hlt2, hgeta, hgetb, va, vb, k1, e]
    by_cases k2 : a[i].num = b[i].num
    case neg =>
      have e : decide (a = b) = false := by simp; rintro rfl; exact k2 rfl
      simp -dsimp [List.range_succ, h0, h1, h5, hlt, hlt2, hgeta, hgetb, va, vb, k1, k2, e]
    have hq' : a[i] = b[i] := by
      cases ea : a[i]; cases eb : b[i]; rw [ea, eb] at k1 k2; simp_all
    have htk2 := take_eq_succ hlt hlt2 htk hq'
    have hmu2 : b.length - (i + 1) < b.length - i := by omega
    simp -dsimp [List.range_succ, h0, h1, h5, hlt, hlt2, hgeta, hgetb, va, vb, k1, k2, wi, hmu, hmu2]
    exact ⟨i + 1, by simp -dsimp [h0], by simp -dsimp [h1], by simp -dsimp, by omega, htk2, by simp⟩
  · rintro s ⟨i, h0, h1, h5, hi, htk, hend⟩
    have := hend rfl
    subst this
    rw [List.take_length, hn, List.take_length] at htk
    have e : decide (a = b) = true := by simpa using htk
    simp -dsimp [e]
theorem sameClaim_fn (a b : Claim) (ha : a.small) : FnZ Tryz.prog 76 [a.v, b.v] (.bool (decide (a = b))) := by
  refine FnZ_of (rs := [.tmp 4]) false Tryz.func76 rfl rfl rfl rfl (Nat.le_of_ble_eq_true rfl) ?_
  by_cases h0 : a.who = b.who
  case neg =>
    have e : decide (a = b) = false := by cases a; cases b; simp_all
    simp -dsimp [Mark.v, h0, e]
  simp -dsimp [h0]
  refine call_ (sameMarks_fn a.says b.says ha) (by simp -dsimp) ?_
  have h1 := ft (decide (a.says = b.says))
  rcases h1 with h1 | h1
  · have e : decide (a = b) = false := by cases a; cases b; simp_all
    simp -dsimp [h1, e]
  · have e : decide (a = b) = true := by cases a; cases b; simp_all
    simp -dsimp [h1, e]
def IsameStory (a b : List Claim) (e : Nat) (s : S) : Prop := ∃ i : Nat, s.tm 0 = .v (.sl (a.map Claim.v)) ∧ s.tm 1 = .v (.sl (b.map Claim.v)) ∧ s.tm 5 = .v (.int .i64 i) ∧ i ≤ a.length ∧ a.take i = b.take i ∧ (e = 1 → i = a.length)
theorem sameStory_fn (a b : List Claim) (hl : a.length ≤ 1048576) (hs : ∀ x ∈ a, x.small) : FnZ Tryz.prog 59 [.sl (a.map Claim.v), .sl (b.map Claim.v)] (.bool (decide (a = b))) := by
  refine FnZ_of (rs := [.tmp 4]) false Tryz.func59 rfl rfl rfl rfl (Nat.le_of_ble_eq_true rfl) ?_
  by_cases hn : a.length = b.length
  case neg =>
    have e : decide (a = b) = false := by simp; rintro rfl; exact hn rfl
    have hn' : ¬ (a.length : Int) = b.length := by omega
    simp -dsimp [hn, hn', e]
  simp -dsimp [hn]
  refine twp_loopC (IsameStory a b 0) (fun s => a.length - natOf (s.tm 5)) (IsameStory a b 1) ?_ ?_ ?_
  · exact ⟨0, by simp -dsimp, by simp -dsimp, by simp -dsimp, by omega, by simp, by simp⟩
  · rintro s ⟨i, h0, h1, h5, hi, htk, hend⟩
    by_cases hlt : i < a.length
    case neg =>
      have hlt2 : ¬ i < b.length := by omega
      simp -dsimp [h0, h5, hlt, hlt2, hn]
      exact ⟨i, by simp -dsimp [h0], by simp -dsimp [h1], by simp -dsimp [h5], hi, htk, fun _ => by omega⟩
    have hlt2 : i < b.length := by omega
    have hgeta : (a.map Claim.v)[i]? = some (a[i].v) := by simp [hlt]
    have hgetb : (b.map Claim.v)[i]? = some (b[i].v) := by simp [hlt2]
    have wi : IntKind.wrap .i64 ((i : Int) + 1) = ((i + 1 : Nat) : Int) := by rw [w64 (by omega) (by omega)]; omega
    have hmu : a.length - (i + 1) < a.length - i := by omega
    simp -dsimp [h0, h5, hlt, hlt2, hn]
    refine twp_draw (List.range 10) [] (List.replicate 10 []) (List.replicate 10 []) (by kernel_rfl) (by kernel_rfl) (by kernel_rfl) (by kernel_rfl) ?_
    simp -dsimp [List.range_succ, h0, h1, h5, hlt, hlt2, hgeta, hgetb]
    refine call_ (sameClaim_fn a[i] b[i] (hs _ (List.getElem_mem _))) (by simp -dsimp [Mark.v]) ?_
    have hq := ft (decide (a[i] = b[i]))
    rcases hq with hq | hq
    · have e : decide (a = b) = false := by
        simp at hq ⊢; rintro rfl; exact hq rfl
      simp -dsimp [List.range_succ, hq, e]
    · have hq' : a[i] = b[i] := by simpa using hq
      have htk2 := take_eq_succ hlt hlt2 htk hq'
      have hmu2 : b.length - (i + 1) < b.length - i := by omega
      simp -dsimp [List.range_succ, hq, h5, wi, hmu, hmu2]
      exact ⟨i + 1, by simp -dsimp [h0], by simp -dsimp [h1], by simp -dsimp, by omega, htk2, by simp⟩
  · rintro s ⟨i, h0, h1, h5, hi, htk, hend⟩
    have := hend rfl
    subst this
    rw [List.take_length, hn, List.take_length] at htk
    have e : decide (a = b) = true := by simpa using htk
    simp -dsimp [e]
theorem samePlace_fn (a b : Place) (ha : a.small) : FnZ Tryz.prog 32 [a.v, b.v] (.bool (decide (a = b))) := by
  refine FnZ_of (rs := [.tmp 4]) false Tryz.func32 rfl rfl rfl rfl (Nat.le_of_ble_eq_true rfl) ?_
  by_cases h0 : a.people = b.people
  case neg =>
    have e : decide (a = b) = false := by cases a; cases b; simp_all
    simp -dsimp [Mark.v, h0, e]
  simp -dsimp [h0]
  refine call_ (sameStory_fn a.story b.story ha.1 ha.2) (by simp -dsimp) ?_
  have h1 := ft (decide (a.story = b.story))
  rcases h1 with h1 | h1
  · have e : decide (a = b) = false := by cases a; cases b; simp_all
    simp -dsimp [h1, e]
  · have e : decide (a = b) = true := by cases a; cases b; simp_all
    simp -dsimp [h1, e]
def IsameDesk (a b : Desk) (e : Nat) (s : S) : Prop := ∃ i : Nat, s.tm 2 = .ptr 0 0 ∧ s.tm 3 = .ptr 1 0 ∧ s.m 0 = some (.box 28 3 [.v (.int .i64 a.now.people), .v (storyV a.now.story), .v (.sl (a.past.map Place.v))]) ∧
  s.m 1 = some (.box 28 3 [.v (.int .i64 b.now.people), .v (storyV b.now.story), .v (.sl (b.past.map Place.v))]) ∧ s.tm 5 = .v (.int .i64 i) ∧ i ≤ a.past.length ∧ a.past.take i = b.past.take i ∧ (e = 1 → i = a.past.length)
theorem sameDesk_fn (a b : Desk) (ha : a.small) : FnZ Tryz.prog 8 [a.v, b.v] (.bool (decide (a = b))) := by
  refine FnZ_of (rs := [.tmp 4]) false Tryz.func8 rfl rfl rfl rfl (Nat.le_of_ble_eq_true rfl) ?_
  have hl := ha.2.1
  simp -dsimp
  refine call_ (samePlace_fn a.now b.now ha.1) (by simp -dsimp) ?_
  have h1 := ft (decide (a.now = b.now))
  rcases h1 with h1 | h1
  · have e : decide (a = b) = false := by cases a; cases b; simp_all
    simp -dsimp [h1, e]
  by_cases hn : a.past.length = b.past.length
  case neg =>
    have e : decide (a = b) = false := by simp; rintro rfl; exact hn rfl
    have hn' : ¬ (a.past.length : Int) = b.past.length := by omega
    simp -dsimp [h1, hn, hn', e]
  simp -dsimp [h1, hn]
  refine twp_loopC (IsameDesk a b 0) (fun s => a.past.length - natOf (s.tm 5)) (IsameDesk a b 1) ?_ ?_ ?_
  · exact ⟨0, by simp -dsimp, by simp -dsimp, by simp -dsimp, by simp -dsimp, by simp -dsimp, by omega, by simp, by simp⟩
  · rintro s ⟨i, t2, t3, m0, m1, h5, hi, htk, hend⟩
    by_cases hlt : i < a.past.length
    case neg =>
      have hlt2 : ¬ i < b.past.length := by omega
      simp -dsimp [t2, m0, h5, hlt, hlt2, hn]
      exact ⟨i, by simp -dsimp [t2], by simp -dsimp [t3], by simp -dsimp [m0], by simp -dsimp [m1], by simp -dsimp [h5], hi, htk, fun _ => by omega⟩
    have hlt2 : i < b.past.length := by omega
    have hgeta : (a.past.map Place.v)[i]? = some (a.past[i].v) := by simp [hlt]
    have hgetb : (b.past.map Place.v)[i]? = some (b.past[i].v) := by simp [hlt2]
    have wi : IntKind.wrap .i64 ((i : Int) + 1) = ((i + 1 : Nat) : Int) := by rw [w64 (by omega) (by omega)]; omega
    have hmu : a.past.length - (i + 1) < a.past.length - i := by omega
    simp -dsimp [t2, m0, h5, hlt, hlt2, hn]
    refine twp_draw (List.range 12) [0, 1] (List.replicate 12 [0, 1]) (List.replicate 12 [0, 1]) (by kernel_rfl) (by kernel_rfl) (by kernel_rfl) (by kernel_rfl) ?_
    simp -dsimp [List.range_succ, t2, t3, m0, m1, h5, hlt, hlt2, hgeta, hgetb]
    refine call_ (samePlace_fn a.past[i] b.past[i] (ha.2.2 _ (List.getElem_mem _))) (by simp -dsimp) ?_
    have hq := ft (decide (a.past[i] = b.past[i]))
    rcases hq with hq | hq
    · have e : decide (a = b) = false := by
        simp at hq ⊢; rintro rfl; exact hq rfl
      simp -dsimp [List.range_succ, hq, e]
    · have hq' : a.past[i] = b.past[i] := by simpa using hq
      have htk2 := take_eq_succ hlt hlt2 htk hq'
      have hmu2 : b.past.length - (i + 1) < b.past.length - i := by omega
      simp -dsimp [List.range_succ, hq, h5, wi, hmu, hmu2]
      exact ⟨i + 1, by simp -dsimp [t2], by simp -dsimp [t3], by simp -dsimp [m0], by simp -dsimp [m1], by simp -dsimp, by omega, htk2, by simp⟩
  · rintro s ⟨i, t2, t3, m0, m1, h5, hi, htk, hend⟩
    have := hend rfl
    subst this
    rw [List.take_length, hn, List.take_length] at htk
    have e : decide (a = b) = true := by cases a; cases b; simp_all
    simp -dsimp [e]
def noDeskV : Desk := ⟨⟨0, []⟩, []⟩
theorem noDesk_fn (a : Desk) (ha : a.small) : FnZ Tryz.prog 16 [a.v] (.bool (decide (a = noDeskV))) := by
  refine FnZ_of (rs := [.tmp 2]) false Tryz.func16 rfl rfl rfl rfl (Nat.le_of_ble_eq_true rfl) ?_
  simp -dsimp
  refine call_ (sameDesk_fn a noDeskV ha) (by simp -dsimp [noDeskV]) ?_
  simp -dsimp
/-- Copies. -/
theorem cloneMarks_fn (l : List Mark) (hl : l.length ≤ 1048576) : FnZ Tryz.prog 68 [marksV l] (marksV l) := by
  have b1 : l.length * 16 ≤ 140737488355328 := by omega
  refine FnZ_of (rs := [.tmp 2]) false Tryz.func68 rfl rfl rfl rfl (Nat.le_of_ble_eq_true rfl) ?_
  simp -dsimp [b1]
def IcopyStory (l : List Claim) (e : Nat) (s : S) : Prop := ∃ i id : Nat, s.tm 7 = .v (.sl (l.map Claim.v)) ∧ s.tm 8 = .v (.int .i64 l.length) ∧ s.tm 9 = .v (.int .i64 i) ∧ s.mu = false ∧ i ≤ l.length ∧ s.tm 3 = .loc id ∧ id < s.n ∧ s.m id = some (.arr 53 ((l.take i).map Claim.v)) ∧ (e = 1 → i = l.length)
theorem copyStory_fn (l : List Claim) (hl : l.length ≤ 1048576) (hs : ∀ c ∈ l, c.small) : FnZ Tryz.prog 48 [storyV l] (storyV l) := by
  refine FnZ_of (rs := [.tmp 2]) false Tryz.func48 rfl rfl rfl rfl (Nat.le_of_ble_eq_true rfl) ?_
  simp -dsimp
  refine twp_loopC (IcopyStory l 0) (fun s => l.length - natOf (s.tm 9)) (IcopyStory l 1) ?_ ?_ ?_
  · exact ⟨0, 0, by simp -dsimp, by simp -dsimp, by simp -dsimp, by simp -dsimp, by omega, by simp -dsimp, by simp -dsimp, by simp -dsimp, by simp⟩
  · rintro s ⟨i, id, t7, t8, t9, hmu, hi, t3, hid, hm, hend⟩
    by_cases hlt : i < l.length
    case neg =>
      simp -dsimp [t8, t9, hlt]
      exact ⟨i, id, by simp -dsimp [t7], by simp -dsimp [t8], by simp -dsimp [t9], by simp -dsimp [hmu], hi, by simp -dsimp [t3], by simp -dsimp [hid], by simp -dsimp [hm], fun _ => by omega⟩
    have hget : (l.map Claim.v)[i]? = some (l[i].v) := by simp [hlt]
    have wi : IntKind.wrap .i64 ((i : Int) + 1) = ((i + 1 : Nat) : Int) := by rw [w64 (by omega) (by omega)]; omega
    have hmu1 : l.length - (i + 1) < l.length - i := by omega
    have f1 := far hid
    have b1 : (min i l.length + 1) * 32 ≤ 140737488355328 := by omega
    simp -dsimp [t7, t8, t9, hlt, hget]
    refine twp_draw (List.range 10) [s.n] (List.replicate 10 [0]) (List.replicate 10 [0]) (by kernel_rfl) (by kernel_rfl) (by kernel_rfl) (by kernel_rfl) ?_
    simp -dsimp [List.range_succ, t3]
    refine call_ (cloneMarks_fn l[i].says (hs _ (List.getElem_mem _))) (by simp -dsimp) ?_
    simp -dsimp [List.range_succ, t3, t9, hmu, f1, hm, b1, wi, hmu1, nes]
    refine ⟨i + 1, s.n + 1 + 1 + 1, by simp -dsimp [t7], by simp -dsimp [t8], by simp -dsimp, by simp -dsimp [hmu], by omega, by simp -dsimp, by simp -dsimp, ?_, by simp⟩
    have : (l.take (i + 1)).map Claim.v = (l.take i).map Claim.v ++ [l[i].v] := by rw [List.take_succ_eq_append_getElem hlt, List.map_append]; rfl
    rw [this]; simp -dsimp
  · rintro s ⟨i, id, t7, t8, t9, hmu, hi, t3, hid, hm, hend⟩
    have := hend rfl
    subst this
    rw [List.take_length] at hm
    simp -dsimp [t3, hm]
theorem copyPlace_fn (p : Place) (hp : p.small) : FnZ Tryz.prog 27 [p.v] p.v := by
  refine FnZ_of (rs := [.cell 2 25]) false Tryz.func27 rfl rfl rfl rfl (Nat.le_of_ble_eq_true rfl) ?_
  simp -dsimp
  refine twp_draw (List.range 7) [0] (List.replicate 7 [0]) (List.replicate 7 [0]) (by kernel_rfl) (by kernel_rfl) (by kernel_rfl) (by kernel_rfl) ?_
  simp -dsimp [List.range_succ]
  refine call_ (copyStory_fn p.story hp.1 hp.2) (by simp -dsimp) ?_
  simp -dsimp [List.range_succ]
end TL

/- Desks. -/
set_option linter.unusedSimpArgs false
set_option linter.unusedVariables false
set_option maxRecDepth 100000
set_option maxHeartbeats 4000000
set_option pp.maxSteps 1500
namespace TL
open Go Go.Proofs
attribute [local simp] marksV storyV codeV Claim.v Place.v Desk.v
def Il15 (p : Place) (e : Nat) (s : S) : Prop := ∃ (i : Nat) (st : T) (z : List T), s.tm 1 = .ptr 0 0 ∧ s.tm 2 = .ptr 1 0 ∧ s.tm 3 = .ptr 2 0 ∧ s.tm 4 = .v (.int .i64 i) ∧ s.mu = false ∧ i ≤ p.story.length ∧ 3 ≤ s.n ∧
  s.m 0 = some (.box 25 2 [.v (.int .i64 p.people), .v (storyV p.story)]) ∧ s.m 1 = some (.box 25 2 z) ∧ z.length = 2 ∧ s.m 2 = some (.box 25 2 [.v (.int .i64 p.people), st]) ∧ IsRow s.m 3 s.n 53 st ((p.story.take i).map Claim.v) ∧ (e = 1 → i = p.story.length)
theorem l15Place_fn (p : Place) (hp : p.small) : FnZ Tryz.prog 52 [p.v] p.v := by
  have hl := hp.1
  refine FnZ_of (rs := [.cell 2 25]) false Tryz.func52 rfl rfl rfl rfl (Nat.le_of_ble_eq_true rfl) ?_
  simp -dsimp
  refine twp_loopC (Il15 p 0) (fun s => p.story.length - natOf (s.tm 4)) (Il15 p 1) ?_ ?_ ?_
  · exact ⟨0, .nil, [.v (.int .i64 0), .nil], by simp -dsimp, by simp -dsimp, by simp -dsimp, by simp -dsimp, by simp -dsimp, by omega, by simp -dsimp, by simp -dsimp, by simp -dsimp, rfl, by simp -dsimp, .inl ⟨rfl, by simp⟩, by simp⟩
  · rintro s ⟨i, st, z, t1, t2, t3, t4, hmu, hi, hn, m0, m1, hz, m2, hst, hend⟩
    by_cases hlt : i < p.story.length
    case neg =>
      simp -dsimp [t1, t4, m0, hlt]
      exact ⟨i, st, z, by simp -dsimp [t1], by simp -dsimp [t2], by simp -dsimp [t3], by simp -dsimp [t4], by simp -dsimp [hmu], hi, by simp -dsimp; omega, by simp -dsimp [m0], by simp -dsimp [m1], hz, by simp -dsimp [m2], hst, fun _ => by omega⟩
    have hget : (p.story.map Claim.v)[i]? = some (p.story[i].v) := by simp [hlt]
    have wi : IntKind.wrap .i64 ((i : Int) + 1) = ((i + 1 : Nat) : Int) := by rw [w64 (by omega) (by omega)]; omega
    have hmu1 : p.story.length - (i + 1) < p.story.length - i := by omega
    have f0 := far (show 0 < s.n by omega)
    have f1 := far (show 1 < s.n by omega)
    have f2 := far (show 2 < s.n by omega)
    have hsm := hp.2 p.story[i] (List.getElem_mem _)
    unfold Claim.small at hsm
    have b0 : p.story[i].says.length * 16 ≤ 140737488355328 := by omega
    have b1 : (min i p.story.length + 1) * 32 ≤ 140737488355328 := by omega
    have htk : (p.story.take (i + 1)).map Claim.v = (p.story.take i).map Claim.v ++ [p.story[i].v] := by rw [List.take_succ_eq_append_getElem hlt, List.map_append]; rfl
    simp -dsimp [t1, t4, m0, hlt]
    refine twp_draw [0, 1, 2, 3, 4, 5, 6, 7, 9, 10, 11, 12, 13, 14, 8, 15, 16, 17, 18, 19, 20] [0, 2] (List.replicate 21 [0, 1]) (List.replicate 20 [0, 1] ++ [[0]]) (by kernel_rfl) (by kernel_rfl) (by kernel_rfl) (by kernel_rfl) ?_
    rcases hst with ⟨rfl, hs0⟩ | ⟨id, rfl, hi0, hi1, him⟩
    · simp -dsimp [t1, t3, t4, m0, m2, hlt, hget, hmu, nes, f0, f1, f2, b0, wi, hmu1]
      have hi00 : i = 0 := by
        simp at hs0; rcases hs0 with h | h
        · exact h
        · rw [h] at hlt; simp at hlt
      subst hi00
      refine st_out fun s' ht hm' hn' hu' => ?_
      have q1 := ht 1
      have q2 := ht 2
      have q3 := ht 3
      have q4 := ht 4
      simp -dsimp [t1, t2, t3] at q1 q2 q3 q4 hm' hn' hu'
      clear ht
      have hn0 : ¬ s.n = 0 := by omega
      have hn1 : ¬ s.n = 1 := by omega
      refine ⟨1, .loc (s.n + 1 + 1 + 1), z, q1, q2, q3, q4, by rw [hu', hmu], by omega, by omega, by simp [hm', hn0, hn1, f0, m0], by simp [hm', hn0, hn1, f1, m1], hz, by simp [hm', hn0, hn1], .inr ⟨s.n + 1 + 1 + 1, rfl, by omega, by omega, ?_⟩, by simp⟩
      rw [htk]; simp [hm', hn0, hn1, f2]
    · have g1 := far hi1
      have g2 : ¬ id = 2 := by omega
      have g0 : ¬ id = 0 := by omega
      have g3 : ¬ id = 1 := by omega
      simp -dsimp [t1, t3, t4, m0, m2, hlt, hget, hmu, nes, f0, f1, f2, b0, b1, g1, g2, g0, g3, Ne.symm g0, Ne.symm g2, Ne.symm g3, him, wi, hmu1]
      refine st_out fun s' ht hm' hn' hu' => ?_
      have q1 := ht 1
      have q2 := ht 2
      have q3 := ht 3
      have q4 := ht 4
      simp -dsimp [t1, t2, t3] at q1 q2 q3 q4 hm' hn' hu'
      clear ht
      have hn0 : ¬ s.n = 0 := by omega
      have hn1 : ¬ s.n = 1 := by omega
      refine ⟨i + 1, .loc (s.n + 1 + 1 + 1), z, q1, q2, q3, q4, by rw [hu', hmu], by omega, by omega, by simp [hm', hn0, hn1, f0, m0, Ne.symm g0], by simp [hm', hn0, hn1, f1, m1, Ne.symm g3], hz, by simp [hm', hn0, hn1], .inr ⟨s.n + 1 + 1 + 1, rfl, by omega, by omega, ?_⟩, by simp⟩
      rw [htk]; simp [hm', hn0, hn1, f2, nes]
  · rintro s ⟨i, st, z, t1, t2, t3, t4, hmu, hi, hn, m0, m1, hz, m2, hst, hend⟩
    have := hend rfl
    subst this
    rw [List.take_length] at hst
    obtain ⟨z0, z1, rfl⟩ : ∃ a b, z = [a, b] := by
      match z, hz with
      | [a, b], _ => exact ⟨a, b, rfl⟩
    rcases hst with ⟨rfl, hs0⟩ | ⟨id, rfl, hi0, hi1, him⟩
    · simp -dsimp [t2, t3, m1, m2, hs0]
    · have g3 : ¬ id = 1 := by omega
      simp -dsimp [t2, t3, m1, m2, him, g3]
def deskNew (p : Place) : Desk := if placeOk p then ⟨p, []⟩ else noDeskV
theorem deskNewS_fn (p : Place) (hp : p.small) (hf : p.fit) : FnZ Tryz.prog 40 [p.v] (.tup [(deskNew p).v, .bool (placeOk p)]) := by
  have fine : p.fine := ⟨by have := hp.1; omega, fun c hc => ⟨(hf.2 c hc).2, by have := hp.2 c hc; unfold Claim.small at this; omega⟩⟩
  refine FnZ_of (rs := [.cell 2 28, .tmp 3]) false Tryz.func40 rfl rfl rfl rfl (Nat.le_of_ble_eq_true rfl) ?_
  simp -dsimp
  refine call_ (placeOkS_fn p fine) (by simp -dsimp) ?_
  have hk := ft (placeOk p)
  rcases hk with hk | hk
  · simp -dsimp [hk, deskNew, noDeskV]
  · simp -dsimp [hk]
    refine call_ (l15Place_fn p hp) (by simp -dsimp) ?_
    simp -dsimp [deskNew, hk]
end TL

/- Copies of places and desks, as rows of the caller's own. -/
set_option linter.unusedSimpArgs false
set_option linter.unusedVariables false
set_option maxRecDepth 100000
set_option maxHeartbeats 4000000
set_option pp.maxSteps 1500
namespace TL
open Go Go.Proofs
attribute [local simp] marksV storyV codeV Claim.v Place.v Desk.v
/-- A place whose row of claims is the caller's own. -/
def OwnPlace (p : Place) (m : Mem) (n : Nat) (t : T) (m' : Mem) (n' : Nat) : Prop := n ≤ n' ∧ (∀ j, j < n → m' j = m j) ∧ ∃ st, t = .agg [.v (.int .i64 p.people), st] ∧ IsRow m' n n' 53 st (p.story.map Claim.v)
def Io15 (p : Place) (m : Mem) (n : Nat) (e : Nat) (s : S) : Prop := ∃ (i : Nat) (st : T) (z : List T), s.tm 1 = .ptr n 0 ∧ s.tm 2 = .ptr (n + 1) 0 ∧ s.tm 3 = .ptr (n + 2) 0 ∧ s.tm 4 = .v (.int .i64 i) ∧ s.mu = false ∧ i ≤ p.story.length ∧ n + 3 ≤ s.n ∧
  s.m n = some (.box 25 2 [.v (.int .i64 p.people), .v (storyV p.story)]) ∧ s.m (n + 1) = some (.box 25 2 z) ∧ z.length = 2 ∧ s.m (n + 2) = some (.box 25 2 [.v (.int .i64 p.people), st]) ∧ IsRow s.m (n + 3) s.n 53 st ((p.story.take i).map Claim.v) ∧ (∀ j, j < n → s.m j = m j) ∧ (e = 1 → i = p.story.length)
theorem l15Place_own (p : Place) (hp : p.small) (m : Mem) (n : Nat) : FnS Tryz.prog 52 m n [.v p.v] (OwnPlace p m n) := by
  have hl := hp.1
  refine FnS_of (rs := [.cell 2 25]) false Tryz.func52 rfl rfl rfl rfl (Nat.le_of_ble_eq_true rfl) ?_
  have e0 : ¬ n = n + 1 := by omega
  have e1 : ¬ n = n + 2 := by omega
  have e2 : ¬ n + 1 = n + 2 := by omega
  have e3 : ¬ n + 2 = n := by omega
  have e4 : ¬ n + 2 = n + 1 := by omega
  have e5 : ¬ n + 1 = n := by omega
  simp -dsimp
  refine twp_loopC (Io15 p m n 0) (fun s => p.story.length - natOf (s.tm 4)) (Io15 p m n 1) ?_ ?_ ?_
  · refine ⟨0, .nil, [.v (.int .i64 0), .nil], by simp -dsimp, by simp -dsimp, by simp -dsimp, by simp -dsimp, by simp -dsimp, by omega, by simp -dsimp, by simp -dsimp [nes], by simp -dsimp [nes], rfl, by simp -dsimp, .inl ⟨rfl, by simp⟩, fun j j1 => ?_, by simp⟩
    simp -dsimp [far j1]
  · rintro s ⟨i, st, z, t1, t2, t3, t4, hmu, hi, hn, m0, m1, hz, m2, hst, hout, hend⟩
    by_cases hlt : i < p.story.length
    case neg =>
      simp -dsimp [t1, t4, m0, hlt]
      exact ⟨i, st, z, by simp -dsimp [t1], by simp -dsimp [t2], by simp -dsimp [t3], by simp -dsimp [t4], by simp -dsimp [hmu], hi, by simp -dsimp; omega, by simp -dsimp [m0], by simp -dsimp [m1], hz, by simp -dsimp [m2], hst, fun j j1 => by simp -dsimp [hout j j1], fun _ => by omega⟩
    have hget : (p.story.map Claim.v)[i]? = some (p.story[i].v) := by simp [hlt]
    have wi : IntKind.wrap .i64 ((i : Int) + 1) = ((i + 1 : Nat) : Int) := by rw [w64 (by omega) (by omega)]; omega
    have hmu1 : p.story.length - (i + 1) < p.story.length - i := by omega
    have f0 := far (show n < s.n by omega)
    have f1 := far (show n + 1 < s.n by omega)
    have f2 := far (show n + 2 < s.n by omega)
    have hsm := hp.2 p.story[i] (List.getElem_mem _)
    unfold Claim.small at hsm
    have b0 : p.story[i].says.length * 16 ≤ 140737488355328 := by omega
    have b1 : (min i p.story.length + 1) * 32 ≤ 140737488355328 := by omega
    have htk : (p.story.take (i + 1)).map Claim.v = (p.story.take i).map Claim.v ++ [p.story[i].v] := by rw [List.take_succ_eq_append_getElem hlt, List.map_append]; rfl
    simp -dsimp [t1, t4, m0, hlt]
    refine twp_draw [0, 1, 2, 3, 4, 5, 6, 7, 9, 10, 11, 12, 13, 14, 8, 15, 16, 17, 18, 19, 20] [n, n + 2] (List.replicate 21 [0, 1]) (List.replicate 20 [0, 1] ++ [[0]]) (by kernel_rfl) (by kernel_rfl) (by kernel_rfl) (by kernel_rfl) ?_
    rcases hst with ⟨rfl, hs0⟩ | ⟨id, rfl, hi0, hi1, him⟩
    · simp -dsimp [t1, t3, t4, m0, m2, hlt, hget, hmu, nes, f0, f1, f2, e0, e1, e2, e3, e4, e5, b0, wi, hmu1]
      have hi00 : i = 0 := by
        simp at hs0; rcases hs0 with h | h
        · exact h
        · rw [h] at hlt; simp at hlt
      subst hi00
      refine st_out fun s' ht hm' hn' hu' => ?_
      have q1 := ht 1
      have q2 := ht 2
      have q3 := ht 3
      have q4 := ht 4
      simp -dsimp [t1, t2, t3] at q1 q2 q3 q4 hm' hn' hu'
      clear ht
      refine ⟨1, .loc (s.n + 1 + 1 + 1), z, q1, q2, q3, q4, by rw [hu', hmu], by omega, by omega, by simp [hm', nes, e0, e1, f0, m0], by simp [hm', nes, e2, f0, f1, m1], hz, by simp [hm', nes, f2], .inr ⟨s.n + 1 + 1 + 1, rfl, by omega, by omega, ?_⟩, fun j j1 => ?_, by simp⟩
      · rw [htk]; simp [hm', nes, f0, f2]
      · simp [hm', far (show j < s.n by omega), show ¬ j = n + 2 by omega, hout j j1]
    · have g1 := far hi1
      have g2 : ¬ id = n + 2 := by omega
      have g0 : ¬ id = n := by omega
      have g3 : ¬ id = n + 1 := by omega
      simp -dsimp [t1, t3, t4, m0, m2, hlt, hget, hmu, nes, f0, f1, f2, e0, e1, e2, e3, e4, e5, b0, b1, g1, g2, g0, g3, Ne.symm g0, Ne.symm g2, Ne.symm g3, him, wi, hmu1]
      refine st_out fun s' ht hm' hn' hu' => ?_
      have q1 := ht 1
      have q2 := ht 2
      have q3 := ht 3
      have q4 := ht 4
      simp -dsimp [t1, t2, t3] at q1 q2 q3 q4 hm' hn' hu'
      clear ht
      refine ⟨i + 1, .loc (s.n + 1 + 1 + 1), z, q1, q2, q3, q4, by rw [hu', hmu], by omega, by omega, by simp [hm', nes, e0, e1, f0, m0, Ne.symm g0], by simp [hm', nes, e2, f0, f1, m1, Ne.symm g3], hz, by simp [hm', nes, f2], .inr ⟨s.n + 1 + 1 + 1, rfl, by omega, by omega, ?_⟩, fun j j1 => ?_, by simp⟩
      · rw [htk]; simp [hm', f0, f2, nes]
      · simp [hm', far (show j < s.n by omega), show ¬ j = n + 2 by omega, show ¬ j = id by omega, hout j j1]
  · rintro s ⟨i, st, z, t1, t2, t3, t4, hmu, hi, hn, m0, m1, hz, m2, hst, hout, hend⟩
    have := hend rfl
    subst this
    rw [List.take_length] at hst
    have f1 := far (show n + 1 < s.n by omega)
    obtain ⟨z0, z1, rfl⟩ : ∃ a b, z = [a, b] := by
      match z, hz with
      | [a, b], _ => exact ⟨a, b, rfl⟩
    rcases hst with ⟨rfl, hs0⟩ | ⟨id, rfl, hi0, hi1, him⟩
    · simp -dsimp [t2, t3, m1, m2, e2, e4]
      exact ⟨by omega, fun j j1 => by simp [show ¬ j = n + 1 by omega, hout j j1], .nil, rfl, .inl ⟨rfl, hs0⟩⟩
    · have g3 : ¬ id = n + 1 := by omega
      simp -dsimp [t2, t3, m1, m2, e2, e4]
      exact ⟨by omega, fun j j1 => by simp [show ¬ j = n + 1 by omega, hout j j1], .loc id, rfl, .inr ⟨id, rfl, by omega, by omega, by simp [g3, him]⟩⟩
end TL
