/- TL: parts TlFacts, Fns1, Fns2, Fns7, Fns8, FnsT. -/
import Derived.Test.YtibdhpnjjgppgaaGreatDoorGc
import Derived.Test.YtibdhpnjjgppgaaGreatDoorChecked
/- Facts about the types of this seat. -/
namespace TL
open Go Go.Proofs
@[simp] theorem sz_1 : sz Tryz.prog 1 = some 1 := by kernel_rfl
@[simp] theorem bytes_1 : bytes Tryz.prog 1 = some 8 := by kernel_rfl
@[simp] theorem szz_1 : szz Tryz.prog 1 = some 1 := by kernel_rfl
@[simp] theorem isAg_1 : isAg Tryz.prog 1 = some false := by kernel_rfl
@[simp] theorem zeroC_1 : zeroC Tryz.prog 1 = some [.v .any] := by kernel_rfl
@[simp] theorem sz_2 : sz Tryz.prog 2 = some 1 := by kernel_rfl
@[simp] theorem bytes_2 : bytes Tryz.prog 2 = some 8 := by kernel_rfl
@[simp] theorem szz_2 : szz Tryz.prog 2 = some 1 := by kernel_rfl
@[simp] theorem isAg_2 : isAg Tryz.prog 2 = some false := by kernel_rfl
@[simp] theorem intK_2 : intK Tryz.prog 2 = some .i64 := by kernel_rfl
@[simp] theorem zeroC_2 : zeroC Tryz.prog 2 = some [.v (.int .i64 0)] := by kernel_rfl
@[simp] theorem sz_3 : sz Tryz.prog 3 = some 1 := by kernel_rfl
@[simp] theorem bytes_3 : bytes Tryz.prog 3 = some 8 := by kernel_rfl
@[simp] theorem szz_3 : szz Tryz.prog 3 = some 1 := by kernel_rfl
@[simp] theorem isAg_3 : isAg Tryz.prog 3 = some false := by kernel_rfl
@[simp] theorem intK_3 : intK Tryz.prog 3 = some .i64 := by kernel_rfl
@[simp] theorem zeroC_3 : zeroC Tryz.prog 3 = some [.v (.int .i64 0)] := by kernel_rfl
@[simp] theorem sz_4 : sz Tryz.prog 4 = some 1 := by kernel_rfl
@[simp] theorem bytes_4 : bytes Tryz.prog 4 = some 1 := by kernel_rfl
@[simp] theorem szz_4 : szz Tryz.prog 4 = some 1 := by kernel_rfl
@[simp] theorem isAg_4 : isAg Tryz.prog 4 = some false := by kernel_rfl
@[simp] theorem isBool_4 : isBool Tryz.prog 4 = some true := by kernel_rfl
@[simp] theorem zeroC_4 : zeroC Tryz.prog 4 = some [.v (.bool false)] := by kernel_rfl
@[simp] theorem sz_5 : sz Tryz.prog 5 = some 1 := by kernel_rfl
@[simp] theorem bytes_5 : bytes Tryz.prog 5 = some 1 := by kernel_rfl
@[simp] theorem szz_5 : szz Tryz.prog 5 = some 1 := by kernel_rfl
@[simp] theorem isAg_5 : isAg Tryz.prog 5 = some false := by kernel_rfl
@[simp] theorem intK_5 : intK Tryz.prog 5 = some .u8 := by kernel_rfl
@[simp] theorem zeroC_5 : zeroC Tryz.prog 5 = some [.v (.int .u8 0)] := by kernel_rfl
@[simp] theorem sz_9 : sz Tryz.prog 9 = some 1 := by kernel_rfl
@[simp] theorem bytes_9 : bytes Tryz.prog 9 = some 16 := by kernel_rfl
@[simp] theorem szz_9 : szz Tryz.prog 9 = some 1 := by kernel_rfl
@[simp] theorem isAg_9 : isAg Tryz.prog 9 = some false := by kernel_rfl
@[simp] theorem isStr_9 : isStr Tryz.prog 9 = some true := by kernel_rfl
@[simp] theorem zeroC_9 : zeroC Tryz.prog 9 = some [.v (.str [])] := by kernel_rfl
@[simp] theorem sz_12 : sz Tryz.prog 12 = some 1 := by kernel_rfl
@[simp] theorem bytes_12 : bytes Tryz.prog 12 = some 8 := by kernel_rfl
@[simp] theorem szz_12 : szz Tryz.prog 12 = some 1 := by kernel_rfl
@[simp] theorem isAg_12 : isAg Tryz.prog 12 = some false := by kernel_rfl
@[simp] theorem intK_12 : intK Tryz.prog 12 = some .u64 := by kernel_rfl
@[simp] theorem zeroC_12 : zeroC Tryz.prog 12 = some [.v (.int .u64 0)] := by kernel_rfl
@[simp] theorem sz_21 : sz Tryz.prog 21 = some 1 := by kernel_rfl
@[simp] theorem bytes_21 : bytes Tryz.prog 21 = some 4 := by kernel_rfl
@[simp] theorem szz_21 : szz Tryz.prog 21 = some 1 := by kernel_rfl
@[simp] theorem isAg_21 : isAg Tryz.prog 21 = some false := by kernel_rfl
@[simp] theorem intK_21 : intK Tryz.prog 21 = some .i32 := by kernel_rfl
@[simp] theorem zeroC_21 : zeroC Tryz.prog 21 = some [.v (.int .i32 0)] := by kernel_rfl
@[simp] theorem sz_22 : sz Tryz.prog 22 = some 1 := by kernel_rfl
@[simp] theorem bytes_22 : bytes Tryz.prog 22 = some 24 := by kernel_rfl
@[simp] theorem szz_22 : szz Tryz.prog 22 = some 1 := by kernel_rfl
@[simp] theorem isAg_22 : isAg Tryz.prog 22 = some false := by kernel_rfl
@[simp] theorem elT_22 : elT Tryz.prog 22 = some 116 := by kernel_rfl
@[simp] theorem isStr_22 : isStr Tryz.prog 22 = some false := by kernel_rfl
@[simp] theorem zeroC_22 : zeroC Tryz.prog 22 = some [.nil] := by kernel_rfl
@[simp] theorem sz_23 : sz Tryz.prog 23 = some 2 := by kernel_rfl
@[simp] theorem bytes_23 : bytes Tryz.prog 23 = some 32 := by kernel_rfl
@[simp] theorem szz_23 : szz Tryz.prog 23 = some 2 := by kernel_rfl
@[simp] theorem isAg_23 : isAg Tryz.prog 23 = some true := by kernel_rfl
@[simp] theorem zeroC_23 : zeroC Tryz.prog 23 = some [.v (.int .i64 0), .nil] := by kernel_rfl
@[simp] theorem fieldsOk_23 : fieldsOk Tryz.prog 23 = true := by kernel_rfl
@[simp] theorem fo_23_0 : fo Tryz.prog 23 0 = some 0 := by kernel_rfl
@[simp] theorem fld_23_0 : fld Tryz.prog 23 0 = some (3, 0) := by kernel_rfl
@[simp] theorem fsz_23_0 : fsz Tryz.prog 23 0 = some 1 := by kernel_rfl
@[simp] theorem fo_23_1 : fo Tryz.prog 23 1 = some 1 := by kernel_rfl
@[simp] theorem fld_23_1 : fld Tryz.prog 23 1 = some (22, 1) := by kernel_rfl
@[simp] theorem fsz_23_1 : fsz Tryz.prog 23 1 = some 1 := by kernel_rfl
@[simp] theorem sz_24 : sz Tryz.prog 24 = some 2 := by kernel_rfl
@[simp] theorem bytes_24 : bytes Tryz.prog 24 = some 32 := by kernel_rfl
@[simp] theorem szz_24 : szz Tryz.prog 24 = some 2 := by kernel_rfl
@[simp] theorem isAg_24 : isAg Tryz.prog 24 = some true := by kernel_rfl
@[simp] theorem zeroC_24 : zeroC Tryz.prog 24 = some [.v (.int .i64 0), .nil] := by kernel_rfl
@[simp] theorem fieldsOk_24 : fieldsOk Tryz.prog 24 = true := by kernel_rfl
@[simp] theorem fo_24_0 : fo Tryz.prog 24 0 = some 0 := by kernel_rfl
@[simp] theorem fld_24_0 : fld Tryz.prog 24 0 = some (3, 0) := by kernel_rfl
@[simp] theorem fsz_24_0 : fsz Tryz.prog 24 0 = some 1 := by kernel_rfl
@[simp] theorem fo_24_1 : fo Tryz.prog 24 1 = some 1 := by kernel_rfl
@[simp] theorem fld_24_1 : fld Tryz.prog 24 1 = some (22, 1) := by kernel_rfl
@[simp] theorem fsz_24_1 : fsz Tryz.prog 24 1 = some 1 := by kernel_rfl
@[simp] theorem sz_25 : sz Tryz.prog 25 = some 1 := by kernel_rfl
@[simp] theorem bytes_25 : bytes Tryz.prog 25 = some 24 := by kernel_rfl
@[simp] theorem szz_25 : szz Tryz.prog 25 = some 1 := by kernel_rfl
@[simp] theorem isAg_25 : isAg Tryz.prog 25 = some false := by kernel_rfl
@[simp] theorem elT_25 : elT Tryz.prog 25 = some 24 := by kernel_rfl
@[simp] theorem isStr_25 : isStr Tryz.prog 25 = some false := by kernel_rfl
@[simp] theorem zeroC_25 : zeroC Tryz.prog 25 = some [.nil] := by kernel_rfl
@[simp] theorem sz_26 : sz Tryz.prog 26 = some 3 := by kernel_rfl
@[simp] theorem bytes_26 : bytes Tryz.prog 26 = some 56 := by kernel_rfl
@[simp] theorem szz_26 : szz Tryz.prog 26 = some 3 := by kernel_rfl
@[simp] theorem isAg_26 : isAg Tryz.prog 26 = some true := by kernel_rfl
@[simp] theorem zeroC_26 : zeroC Tryz.prog 26 = some [.v (.int .i64 0), .nil, .nil] := by kernel_rfl
@[simp] theorem fieldsOk_26 : fieldsOk Tryz.prog 26 = true := by kernel_rfl
@[simp] theorem fo_26_0 : fo Tryz.prog 26 0 = some 0 := by kernel_rfl
@[simp] theorem fld_26_0 : fld Tryz.prog 26 0 = some (24, 0) := by kernel_rfl
@[simp] theorem fsz_26_0 : fsz Tryz.prog 26 0 = some 2 := by kernel_rfl
@[simp] theorem fo_26_1 : fo Tryz.prog 26 1 = some 2 := by kernel_rfl
@[simp] theorem fld_26_1 : fld Tryz.prog 26 1 = some (25, 2) := by kernel_rfl
@[simp] theorem fsz_26_1 : fsz Tryz.prog 26 1 = some 1 := by kernel_rfl
@[simp] theorem sz_27 : sz Tryz.prog 27 = some 3 := by kernel_rfl
@[simp] theorem bytes_27 : bytes Tryz.prog 27 = some 56 := by kernel_rfl
@[simp] theorem szz_27 : szz Tryz.prog 27 = some 3 := by kernel_rfl
@[simp] theorem isAg_27 : isAg Tryz.prog 27 = some true := by kernel_rfl
@[simp] theorem zeroC_27 : zeroC Tryz.prog 27 = some [.v (.int .i64 0), .nil, .nil] := by kernel_rfl
@[simp] theorem fieldsOk_27 : fieldsOk Tryz.prog 27 = true := by kernel_rfl
@[simp] theorem fo_27_0 : fo Tryz.prog 27 0 = some 0 := by kernel_rfl
@[simp] theorem fld_27_0 : fld Tryz.prog 27 0 = some (24, 0) := by kernel_rfl
@[simp] theorem fsz_27_0 : fsz Tryz.prog 27 0 = some 2 := by kernel_rfl
@[simp] theorem fo_27_1 : fo Tryz.prog 27 1 = some 2 := by kernel_rfl
@[simp] theorem fld_27_1 : fld Tryz.prog 27 1 = some (25, 2) := by kernel_rfl
@[simp] theorem fsz_27_1 : fsz Tryz.prog 27 1 = some 1 := by kernel_rfl
@[simp] theorem sz_28 : sz Tryz.prog 28 = some 3 := by kernel_rfl
@[simp] theorem bytes_28 : bytes Tryz.prog 28 = some 32 := by kernel_rfl
@[simp] theorem szz_28 : szz Tryz.prog 28 = some 3 := by kernel_rfl
@[simp] theorem isAg_28 : isAg Tryz.prog 28 = some true := by kernel_rfl
@[simp] theorem zeroC_28 : zeroC Tryz.prog 28 = some [.v (.int .i64 0), .v (.int .i64 0), .v (.str [])] := by kernel_rfl
@[simp] theorem fieldsOk_28 : fieldsOk Tryz.prog 28 = true := by kernel_rfl
@[simp] theorem eqKinds_28 : eqKinds Tryz.prog 28 = some [1, 1, 2] := by kernel_rfl
@[simp] theorem fo_28_0 : fo Tryz.prog 28 0 = some 0 := by kernel_rfl
@[simp] theorem fld_28_0 : fld Tryz.prog 28 0 = some (3, 0) := by kernel_rfl
@[simp] theorem fsz_28_0 : fsz Tryz.prog 28 0 = some 1 := by kernel_rfl
@[simp] theorem fo_28_1 : fo Tryz.prog 28 1 = some 1 := by kernel_rfl
@[simp] theorem fld_28_1 : fld Tryz.prog 28 1 = some (3, 1) := by kernel_rfl
@[simp] theorem fsz_28_1 : fsz Tryz.prog 28 1 = some 1 := by kernel_rfl
@[simp] theorem fo_28_2 : fo Tryz.prog 28 2 = some 2 := by kernel_rfl
@[simp] theorem fld_28_2 : fld Tryz.prog 28 2 = some (9, 2) := by kernel_rfl
@[simp] theorem fsz_28_2 : fsz Tryz.prog 28 2 = some 1 := by kernel_rfl
@[simp] theorem sz_29 : sz Tryz.prog 29 = some 3 := by kernel_rfl
@[simp] theorem bytes_29 : bytes Tryz.prog 29 = some 32 := by kernel_rfl
@[simp] theorem szz_29 : szz Tryz.prog 29 = some 3 := by kernel_rfl
@[simp] theorem isAg_29 : isAg Tryz.prog 29 = some true := by kernel_rfl
@[simp] theorem zeroC_29 : zeroC Tryz.prog 29 = some [.v (.int .i64 0), .v (.int .i64 0), .v (.str [])] := by kernel_rfl
@[simp] theorem fieldsOk_29 : fieldsOk Tryz.prog 29 = true := by kernel_rfl
@[simp] theorem eqKinds_29 : eqKinds Tryz.prog 29 = some [1, 1, 2] := by kernel_rfl
@[simp] theorem fo_29_0 : fo Tryz.prog 29 0 = some 0 := by kernel_rfl
@[simp] theorem fld_29_0 : fld Tryz.prog 29 0 = some (3, 0) := by kernel_rfl
@[simp] theorem fsz_29_0 : fsz Tryz.prog 29 0 = some 1 := by kernel_rfl
@[simp] theorem fo_29_1 : fo Tryz.prog 29 1 = some 1 := by kernel_rfl
@[simp] theorem fld_29_1 : fld Tryz.prog 29 1 = some (3, 1) := by kernel_rfl
@[simp] theorem fsz_29_1 : fsz Tryz.prog 29 1 = some 1 := by kernel_rfl
@[simp] theorem fo_29_2 : fo Tryz.prog 29 2 = some 2 := by kernel_rfl
@[simp] theorem fld_29_2 : fld Tryz.prog 29 2 = some (9, 2) := by kernel_rfl
@[simp] theorem fsz_29_2 : fsz Tryz.prog 29 2 = some 1 := by kernel_rfl
@[simp] theorem sz_30 : sz Tryz.prog 30 = some 1 := by kernel_rfl
@[simp] theorem bytes_30 : bytes Tryz.prog 30 = some 8 := by kernel_rfl
@[simp] theorem szz_30 : szz Tryz.prog 30 = some 1 := by kernel_rfl
@[simp] theorem isAg_30 : isAg Tryz.prog 30 = some false := by kernel_rfl
@[simp] theorem zeroC_30 : zeroC Tryz.prog 30 = some [.v .any] := by kernel_rfl
@[simp] theorem sz_31 : sz Tryz.prog 31 = some 1 := by kernel_rfl
@[simp] theorem bytes_31 : bytes Tryz.prog 31 = some 8 := by kernel_rfl
@[simp] theorem szz_31 : szz Tryz.prog 31 = some 1 := by kernel_rfl
@[simp] theorem isAg_31 : isAg Tryz.prog 31 = some false := by kernel_rfl
@[simp] theorem zeroC_31 : zeroC Tryz.prog 31 = some [.v .any] := by kernel_rfl
@[simp] theorem sz_32 : sz Tryz.prog 32 = some 1 := by kernel_rfl
@[simp] theorem bytes_32 : bytes Tryz.prog 32 = some 24 := by kernel_rfl
@[simp] theorem szz_32 : szz Tryz.prog 32 = some 1 := by kernel_rfl
@[simp] theorem isAg_32 : isAg Tryz.prog 32 = some false := by kernel_rfl
@[simp] theorem elT_32 : elT Tryz.prog 32 = some 74 := by kernel_rfl
@[simp] theorem isStr_32 : isStr Tryz.prog 32 = some false := by kernel_rfl
@[simp] theorem zeroC_32 : zeroC Tryz.prog 32 = some [.nil] := by kernel_rfl
@[simp] theorem sz_33 : sz Tryz.prog 33 = some 2 := by kernel_rfl
@[simp] theorem bytes_33 : bytes Tryz.prog 33 = some 32 := by kernel_rfl
@[simp] theorem szz_33 : szz Tryz.prog 33 = some 2 := by kernel_rfl
@[simp] theorem isAg_33 : isAg Tryz.prog 33 = some true := by kernel_rfl
@[simp] theorem zeroC_33 : zeroC Tryz.prog 33 = some [.v (.int .i64 0), .nil] := by kernel_rfl
@[simp] theorem fieldsOk_33 : fieldsOk Tryz.prog 33 = true := by kernel_rfl
@[simp] theorem fo_33_0 : fo Tryz.prog 33 0 = some 0 := by kernel_rfl
@[simp] theorem fld_33_0 : fld Tryz.prog 33 0 = some (3, 0) := by kernel_rfl
@[simp] theorem fsz_33_0 : fsz Tryz.prog 33 0 = some 1 := by kernel_rfl
@[simp] theorem fo_33_1 : fo Tryz.prog 33 1 = some 1 := by kernel_rfl
@[simp] theorem fld_33_1 : fld Tryz.prog 33 1 = some (32, 1) := by kernel_rfl
@[simp] theorem fsz_33_1 : fsz Tryz.prog 33 1 = some 1 := by kernel_rfl
@[simp] theorem sz_34 : sz Tryz.prog 34 = some 2 := by kernel_rfl
@[simp] theorem bytes_34 : bytes Tryz.prog 34 = some 32 := by kernel_rfl
@[simp] theorem szz_34 : szz Tryz.prog 34 = some 2 := by kernel_rfl
@[simp] theorem isAg_34 : isAg Tryz.prog 34 = some true := by kernel_rfl
@[simp] theorem zeroC_34 : zeroC Tryz.prog 34 = some [.v (.int .i64 0), .nil] := by kernel_rfl
@[simp] theorem fieldsOk_34 : fieldsOk Tryz.prog 34 = true := by kernel_rfl
@[simp] theorem fo_34_0 : fo Tryz.prog 34 0 = some 0 := by kernel_rfl
@[simp] theorem fld_34_0 : fld Tryz.prog 34 0 = some (3, 0) := by kernel_rfl
@[simp] theorem fsz_34_0 : fsz Tryz.prog 34 0 = some 1 := by kernel_rfl
@[simp] theorem fo_34_1 : fo Tryz.prog 34 1 = some 1 := by kernel_rfl
@[simp] theorem fld_34_1 : fld Tryz.prog 34 1 = some (32, 1) := by kernel_rfl
@[simp] theorem fsz_34_1 : fsz Tryz.prog 34 1 = some 1 := by kernel_rfl
@[simp] theorem sz_35 : sz Tryz.prog 35 = some 1 := by kernel_rfl
@[simp] theorem bytes_35 : bytes Tryz.prog 35 = some 24 := by kernel_rfl
@[simp] theorem szz_35 : szz Tryz.prog 35 = some 1 := by kernel_rfl
@[simp] theorem isAg_35 : isAg Tryz.prog 35 = some false := by kernel_rfl
@[simp] theorem elT_35 : elT Tryz.prog 35 = some 34 := by kernel_rfl
@[simp] theorem isStr_35 : isStr Tryz.prog 35 = some false := by kernel_rfl
@[simp] theorem zeroC_35 : zeroC Tryz.prog 35 = some [.nil] := by kernel_rfl
@[simp] theorem sz_36 : sz Tryz.prog 36 = some 3 := by kernel_rfl
@[simp] theorem bytes_36 : bytes Tryz.prog 36 = some 56 := by kernel_rfl
@[simp] theorem szz_36 : szz Tryz.prog 36 = some 3 := by kernel_rfl
@[simp] theorem isAg_36 : isAg Tryz.prog 36 = some true := by kernel_rfl
@[simp] theorem zeroC_36 : zeroC Tryz.prog 36 = some [.v (.int .i64 0), .nil, .nil] := by kernel_rfl
@[simp] theorem fieldsOk_36 : fieldsOk Tryz.prog 36 = true := by kernel_rfl
@[simp] theorem fo_36_0 : fo Tryz.prog 36 0 = some 0 := by kernel_rfl
@[simp] theorem fld_36_0 : fld Tryz.prog 36 0 = some (34, 0) := by kernel_rfl
@[simp] theorem fsz_36_0 : fsz Tryz.prog 36 0 = some 2 := by kernel_rfl
@[simp] theorem fo_36_1 : fo Tryz.prog 36 1 = some 2 := by kernel_rfl
@[simp] theorem fld_36_1 : fld Tryz.prog 36 1 = some (35, 2) := by kernel_rfl
@[simp] theorem fsz_36_1 : fsz Tryz.prog 36 1 = some 1 := by kernel_rfl
@[simp] theorem sz_37 : sz Tryz.prog 37 = some 3 := by kernel_rfl
@[simp] theorem bytes_37 : bytes Tryz.prog 37 = some 56 := by kernel_rfl
@[simp] theorem szz_37 : szz Tryz.prog 37 = some 3 := by kernel_rfl
@[simp] theorem isAg_37 : isAg Tryz.prog 37 = some true := by kernel_rfl
@[simp] theorem zeroC_37 : zeroC Tryz.prog 37 = some [.v (.int .i64 0), .nil, .nil] := by kernel_rfl
@[simp] theorem fieldsOk_37 : fieldsOk Tryz.prog 37 = true := by kernel_rfl
@[simp] theorem fo_37_0 : fo Tryz.prog 37 0 = some 0 := by kernel_rfl
@[simp] theorem fld_37_0 : fld Tryz.prog 37 0 = some (34, 0) := by kernel_rfl
@[simp] theorem fsz_37_0 : fsz Tryz.prog 37 0 = some 2 := by kernel_rfl
@[simp] theorem fo_37_1 : fo Tryz.prog 37 1 = some 2 := by kernel_rfl
@[simp] theorem fld_37_1 : fld Tryz.prog 37 1 = some (35, 2) := by kernel_rfl
@[simp] theorem fsz_37_1 : fsz Tryz.prog 37 1 = some 1 := by kernel_rfl
@[simp] theorem sz_39 : sz Tryz.prog 39 = some 1 := by kernel_rfl
@[simp] theorem bytes_39 : bytes Tryz.prog 39 = some 8 := by kernel_rfl
@[simp] theorem szz_39 : szz Tryz.prog 39 = some 1 := by kernel_rfl
@[simp] theorem isAg_39 : isAg Tryz.prog 39 = some false := by kernel_rfl
@[simp] theorem zeroC_39 : zeroC Tryz.prog 39 = some [.v .any] := by kernel_rfl
@[simp] theorem sz_40 : sz Tryz.prog 40 = some 1 := by kernel_rfl
@[simp] theorem bytes_40 : bytes Tryz.prog 40 = some 8 := by kernel_rfl
@[simp] theorem szz_40 : szz Tryz.prog 40 = some 1 := by kernel_rfl
@[simp] theorem isAg_40 : isAg Tryz.prog 40 = some false := by kernel_rfl
@[simp] theorem zeroC_40 : zeroC Tryz.prog 40 = some [.v .any] := by kernel_rfl
@[simp] theorem sz_41 : sz Tryz.prog 41 = some 3 := by kernel_rfl
@[simp] theorem bytes_41 : bytes Tryz.prog 41 = some 32 := by kernel_rfl
@[simp] theorem szz_41 : szz Tryz.prog 41 = some 3 := by kernel_rfl
@[simp] theorem isAg_41 : isAg Tryz.prog 41 = some true := by kernel_rfl
@[simp] theorem zeroC_41 : zeroC Tryz.prog 41 = some [.v (.int .i64 0), .v (.int .i64 0), .v (.str [])] := by kernel_rfl
@[simp] theorem fieldsOk_41 : fieldsOk Tryz.prog 41 = true := by kernel_rfl
@[simp] theorem eqKinds_41 : eqKinds Tryz.prog 41 = some [1, 1, 2] := by kernel_rfl
@[simp] theorem fo_41_0 : fo Tryz.prog 41 0 = some 0 := by kernel_rfl
@[simp] theorem fld_41_0 : fld Tryz.prog 41 0 = some (3, 0) := by kernel_rfl
@[simp] theorem fsz_41_0 : fsz Tryz.prog 41 0 = some 1 := by kernel_rfl
@[simp] theorem fo_41_1 : fo Tryz.prog 41 1 = some 1 := by kernel_rfl
@[simp] theorem fld_41_1 : fld Tryz.prog 41 1 = some (3, 1) := by kernel_rfl
@[simp] theorem fsz_41_1 : fsz Tryz.prog 41 1 = some 1 := by kernel_rfl
@[simp] theorem fo_41_2 : fo Tryz.prog 41 2 = some 2 := by kernel_rfl
@[simp] theorem fld_41_2 : fld Tryz.prog 41 2 = some (9, 2) := by kernel_rfl
@[simp] theorem fsz_41_2 : fsz Tryz.prog 41 2 = some 1 := by kernel_rfl
@[simp] theorem sz_42 : sz Tryz.prog 42 = some 1 := by kernel_rfl
@[simp] theorem bytes_42 : bytes Tryz.prog 42 = some 8 := by kernel_rfl
@[simp] theorem szz_42 : szz Tryz.prog 42 = some 1 := by kernel_rfl
@[simp] theorem isAg_42 : isAg Tryz.prog 42 = some false := by kernel_rfl
@[simp] theorem zeroC_42 : zeroC Tryz.prog 42 = some [.v .any] := by kernel_rfl
@[simp] theorem sz_43 : sz Tryz.prog 43 = some 1 := by kernel_rfl
@[simp] theorem bytes_43 : bytes Tryz.prog 43 = some 8 := by kernel_rfl
@[simp] theorem szz_43 : szz Tryz.prog 43 = some 1 := by kernel_rfl
@[simp] theorem isAg_43 : isAg Tryz.prog 43 = some false := by kernel_rfl
@[simp] theorem zeroC_43 : zeroC Tryz.prog 43 = some [.v .any] := by kernel_rfl
@[simp] theorem sz_44 : sz Tryz.prog 44 = some 1 := by kernel_rfl
@[simp] theorem bytes_44 : bytes Tryz.prog 44 = some 8 := by kernel_rfl
@[simp] theorem szz_44 : szz Tryz.prog 44 = some 1 := by kernel_rfl
@[simp] theorem isAg_44 : isAg Tryz.prog 44 = some false := by kernel_rfl
@[simp] theorem zeroC_44 : zeroC Tryz.prog 44 = some [.v .any] := by kernel_rfl
@[simp] theorem sz_45 : sz Tryz.prog 45 = some 1 := by kernel_rfl
@[simp] theorem bytes_45 : bytes Tryz.prog 45 = some 8 := by kernel_rfl
@[simp] theorem szz_45 : szz Tryz.prog 45 = some 1 := by kernel_rfl
@[simp] theorem isAg_45 : isAg Tryz.prog 45 = some false := by kernel_rfl
@[simp] theorem zeroC_45 : zeroC Tryz.prog 45 = some [.v .any] := by kernel_rfl
@[simp] theorem sz_46 : sz Tryz.prog 46 = some 1 := by kernel_rfl
@[simp] theorem bytes_46 : bytes Tryz.prog 46 = some 24 := by kernel_rfl
@[simp] theorem szz_46 : szz Tryz.prog 46 = some 1 := by kernel_rfl
@[simp] theorem isAg_46 : isAg Tryz.prog 46 = some false := by kernel_rfl
@[simp] theorem elT_46 : elT Tryz.prog 46 = some 29 := by kernel_rfl
@[simp] theorem isStr_46 : isStr Tryz.prog 46 = some false := by kernel_rfl
@[simp] theorem zeroC_46 : zeroC Tryz.prog 46 = some [.nil] := by kernel_rfl
@[simp] theorem sz_47 : sz Tryz.prog 47 = some 1 := by kernel_rfl
@[simp] theorem bytes_47 : bytes Tryz.prog 47 = some 8 := by kernel_rfl
@[simp] theorem szz_47 : szz Tryz.prog 47 = some 1 := by kernel_rfl
@[simp] theorem isAg_47 : isAg Tryz.prog 47 = some false := by kernel_rfl
@[simp] theorem zeroC_47 : zeroC Tryz.prog 47 = some [.v .any] := by kernel_rfl
@[simp] theorem sz_49 : sz Tryz.prog 49 = some 1 := by kernel_rfl
@[simp] theorem bytes_49 : bytes Tryz.prog 49 = some 8 := by kernel_rfl
@[simp] theorem szz_49 : szz Tryz.prog 49 = some 1 := by kernel_rfl
@[simp] theorem isAg_49 : isAg Tryz.prog 49 = some false := by kernel_rfl
@[simp] theorem zeroC_49 : zeroC Tryz.prog 49 = some [.v .any] := by kernel_rfl
@[simp] theorem sz_50 : sz Tryz.prog 50 = some 1 := by kernel_rfl
@[simp] theorem bytes_50 : bytes Tryz.prog 50 = some 24 := by kernel_rfl
@[simp] theorem szz_50 : szz Tryz.prog 50 = some 1 := by kernel_rfl
@[simp] theorem isAg_50 : isAg Tryz.prog 50 = some false := by kernel_rfl
@[simp] theorem elT_50 : elT Tryz.prog 50 = some 41 := by kernel_rfl
@[simp] theorem isStr_50 : isStr Tryz.prog 50 = some false := by kernel_rfl
@[simp] theorem zeroC_50 : zeroC Tryz.prog 50 = some [.nil] := by kernel_rfl
@[simp] theorem sz_51 : sz Tryz.prog 51 = some 1 := by kernel_rfl
@[simp] theorem bytes_51 : bytes Tryz.prog 51 = some 8 := by kernel_rfl
@[simp] theorem szz_51 : szz Tryz.prog 51 = some 1 := by kernel_rfl
@[simp] theorem isAg_51 : isAg Tryz.prog 51 = some false := by kernel_rfl
@[simp] theorem zeroC_51 : zeroC Tryz.prog 51 = some [.v .any] := by kernel_rfl
@[simp] theorem sz_52 : sz Tryz.prog 52 = some 1 := by kernel_rfl
@[simp] theorem bytes_52 : bytes Tryz.prog 52 = some 8 := by kernel_rfl
@[simp] theorem szz_52 : szz Tryz.prog 52 = some 1 := by kernel_rfl
@[simp] theorem isAg_52 : isAg Tryz.prog 52 = some false := by kernel_rfl
@[simp] theorem zeroC_52 : zeroC Tryz.prog 52 = some [.v .any] := by kernel_rfl
@[simp] theorem sz_53 : sz Tryz.prog 53 = some 1 := by kernel_rfl
@[simp] theorem bytes_53 : bytes Tryz.prog 53 = some 8 := by kernel_rfl
@[simp] theorem szz_53 : szz Tryz.prog 53 = some 1 := by kernel_rfl
@[simp] theorem isAg_53 : isAg Tryz.prog 53 = some false := by kernel_rfl
@[simp] theorem zeroC_53 : zeroC Tryz.prog 53 = some [.v .any] := by kernel_rfl
@[simp] theorem sz_54 : sz Tryz.prog 54 = some 1 := by kernel_rfl
@[simp] theorem bytes_54 : bytes Tryz.prog 54 = some 8 := by kernel_rfl
@[simp] theorem szz_54 : szz Tryz.prog 54 = some 1 := by kernel_rfl
@[simp] theorem isAg_54 : isAg Tryz.prog 54 = some false := by kernel_rfl
@[simp] theorem zeroC_54 : zeroC Tryz.prog 54 = some [.v .any] := by kernel_rfl
@[simp] theorem sz_55 : sz Tryz.prog 55 = some 3 := by kernel_rfl
@[simp] theorem bytes_55 : bytes Tryz.prog 55 = some 40 := by kernel_rfl
@[simp] theorem szz_55 : szz Tryz.prog 55 = some 3 := by kernel_rfl
@[simp] theorem isAg_55 : isAg Tryz.prog 55 = some true := by kernel_rfl
@[simp] theorem zeroC_55 : zeroC Tryz.prog 55 = some [.v (.str []), .v (.str []), .v (.int .i64 0)] := by kernel_rfl
@[simp] theorem fieldsOk_55 : fieldsOk Tryz.prog 55 = true := by kernel_rfl
@[simp] theorem eqKinds_55 : eqKinds Tryz.prog 55 = some [2, 2, 1] := by kernel_rfl
@[simp] theorem fo_55_0 : fo Tryz.prog 55 0 = some 0 := by kernel_rfl
@[simp] theorem fld_55_0 : fld Tryz.prog 55 0 = some (9, 0) := by kernel_rfl
@[simp] theorem fsz_55_0 : fsz Tryz.prog 55 0 = some 1 := by kernel_rfl
@[simp] theorem fo_55_1 : fo Tryz.prog 55 1 = some 1 := by kernel_rfl
@[simp] theorem fld_55_1 : fld Tryz.prog 55 1 = some (9, 1) := by kernel_rfl
@[simp] theorem fsz_55_1 : fsz Tryz.prog 55 1 = some 1 := by kernel_rfl
@[simp] theorem fo_55_2 : fo Tryz.prog 55 2 = some 2 := by kernel_rfl
@[simp] theorem fld_55_2 : fld Tryz.prog 55 2 = some (3, 2) := by kernel_rfl
@[simp] theorem fsz_55_2 : fsz Tryz.prog 55 2 = some 1 := by kernel_rfl
@[simp] theorem sz_56 : sz Tryz.prog 56 = some 3 := by kernel_rfl
@[simp] theorem bytes_56 : bytes Tryz.prog 56 = some 40 := by kernel_rfl
@[simp] theorem szz_56 : szz Tryz.prog 56 = some 3 := by kernel_rfl
@[simp] theorem isAg_56 : isAg Tryz.prog 56 = some true := by kernel_rfl
@[simp] theorem zeroC_56 : zeroC Tryz.prog 56 = some [.v (.str []), .v (.str []), .v (.int .i64 0)] := by kernel_rfl
@[simp] theorem fieldsOk_56 : fieldsOk Tryz.prog 56 = true := by kernel_rfl
@[simp] theorem eqKinds_56 : eqKinds Tryz.prog 56 = some [2, 2, 1] := by kernel_rfl
@[simp] theorem fo_56_0 : fo Tryz.prog 56 0 = some 0 := by kernel_rfl
@[simp] theorem fld_56_0 : fld Tryz.prog 56 0 = some (9, 0) := by kernel_rfl
@[simp] theorem fsz_56_0 : fsz Tryz.prog 56 0 = some 1 := by kernel_rfl
@[simp] theorem fo_56_1 : fo Tryz.prog 56 1 = some 1 := by kernel_rfl
@[simp] theorem fld_56_1 : fld Tryz.prog 56 1 = some (9, 1) := by kernel_rfl
@[simp] theorem fsz_56_1 : fsz Tryz.prog 56 1 = some 1 := by kernel_rfl
@[simp] theorem fo_56_2 : fo Tryz.prog 56 2 = some 2 := by kernel_rfl
@[simp] theorem fld_56_2 : fld Tryz.prog 56 2 = some (3, 2) := by kernel_rfl
@[simp] theorem fsz_56_2 : fsz Tryz.prog 56 2 = some 1 := by kernel_rfl
@[simp] theorem sz_57 : sz Tryz.prog 57 = some 1 := by kernel_rfl
@[simp] theorem bytes_57 : bytes Tryz.prog 57 = some 8 := by kernel_rfl
@[simp] theorem szz_57 : szz Tryz.prog 57 = some 1 := by kernel_rfl
@[simp] theorem isAg_57 : isAg Tryz.prog 57 = some false := by kernel_rfl
@[simp] theorem zeroC_57 : zeroC Tryz.prog 57 = some [.v .any] := by kernel_rfl
@[simp] theorem sz_58 : sz Tryz.prog 58 = some 1 := by kernel_rfl
@[simp] theorem bytes_58 : bytes Tryz.prog 58 = some 8 := by kernel_rfl
@[simp] theorem szz_58 : szz Tryz.prog 58 = some 1 := by kernel_rfl
@[simp] theorem isAg_58 : isAg Tryz.prog 58 = some false := by kernel_rfl
@[simp] theorem zeroC_58 : zeroC Tryz.prog 58 = some [.v .any] := by kernel_rfl
@[simp] theorem sz_59 : sz Tryz.prog 59 = some 3 := by kernel_rfl
@[simp] theorem bytes_59 : bytes Tryz.prog 59 = some 40 := by kernel_rfl
@[simp] theorem szz_59 : szz Tryz.prog 59 = some 3 := by kernel_rfl
@[simp] theorem isAg_59 : isAg Tryz.prog 59 = some true := by kernel_rfl
@[simp] theorem zeroC_59 : zeroC Tryz.prog 59 = some [.v (.str []), .v (.str []), .v (.int .i64 0)] := by kernel_rfl
@[simp] theorem fieldsOk_59 : fieldsOk Tryz.prog 59 = true := by kernel_rfl
@[simp] theorem eqKinds_59 : eqKinds Tryz.prog 59 = some [2, 2, 1] := by kernel_rfl
@[simp] theorem fo_59_0 : fo Tryz.prog 59 0 = some 0 := by kernel_rfl
@[simp] theorem fld_59_0 : fld Tryz.prog 59 0 = some (9, 0) := by kernel_rfl
@[simp] theorem fsz_59_0 : fsz Tryz.prog 59 0 = some 1 := by kernel_rfl
@[simp] theorem fo_59_1 : fo Tryz.prog 59 1 = some 1 := by kernel_rfl
@[simp] theorem fld_59_1 : fld Tryz.prog 59 1 = some (9, 1) := by kernel_rfl
@[simp] theorem fsz_59_1 : fsz Tryz.prog 59 1 = some 1 := by kernel_rfl
@[simp] theorem fo_59_2 : fo Tryz.prog 59 2 = some 2 := by kernel_rfl
@[simp] theorem fld_59_2 : fld Tryz.prog 59 2 = some (3, 2) := by kernel_rfl
@[simp] theorem fsz_59_2 : fsz Tryz.prog 59 2 = some 1 := by kernel_rfl
@[simp] theorem sz_60 : sz Tryz.prog 60 = some 1 := by kernel_rfl
@[simp] theorem bytes_60 : bytes Tryz.prog 60 = some 8 := by kernel_rfl
@[simp] theorem szz_60 : szz Tryz.prog 60 = some 1 := by kernel_rfl
@[simp] theorem isAg_60 : isAg Tryz.prog 60 = some false := by kernel_rfl
@[simp] theorem zeroC_60 : zeroC Tryz.prog 60 = some [.v .any] := by kernel_rfl
@[simp] theorem sz_61 : sz Tryz.prog 61 = some 1 := by kernel_rfl
@[simp] theorem bytes_61 : bytes Tryz.prog 61 = some 8 := by kernel_rfl
@[simp] theorem szz_61 : szz Tryz.prog 61 = some 1 := by kernel_rfl
@[simp] theorem isAg_61 : isAg Tryz.prog 61 = some false := by kernel_rfl
@[simp] theorem zeroC_61 : zeroC Tryz.prog 61 = some [.v .any] := by kernel_rfl
@[simp] theorem sz_62 : sz Tryz.prog 62 = some 1 := by kernel_rfl
@[simp] theorem bytes_62 : bytes Tryz.prog 62 = some 8 := by kernel_rfl
@[simp] theorem szz_62 : szz Tryz.prog 62 = some 1 := by kernel_rfl
@[simp] theorem isAg_62 : isAg Tryz.prog 62 = some false := by kernel_rfl
@[simp] theorem zeroC_62 : zeroC Tryz.prog 62 = some [.v .any] := by kernel_rfl
@[simp] theorem sz_63 : sz Tryz.prog 63 = some 1 := by kernel_rfl
@[simp] theorem bytes_63 : bytes Tryz.prog 63 = some 8 := by kernel_rfl
@[simp] theorem szz_63 : szz Tryz.prog 63 = some 1 := by kernel_rfl
@[simp] theorem isAg_63 : isAg Tryz.prog 63 = some false := by kernel_rfl
@[simp] theorem zeroC_63 : zeroC Tryz.prog 63 = some [.v .any] := by kernel_rfl
@[simp] theorem sz_64 : sz Tryz.prog 64 = some 1 := by kernel_rfl
@[simp] theorem bytes_64 : bytes Tryz.prog 64 = some 8 := by kernel_rfl
@[simp] theorem szz_64 : szz Tryz.prog 64 = some 1 := by kernel_rfl
@[simp] theorem isAg_64 : isAg Tryz.prog 64 = some false := by kernel_rfl
@[simp] theorem zeroC_64 : zeroC Tryz.prog 64 = some [.v .any] := by kernel_rfl
@[simp] theorem sz_65 : sz Tryz.prog 65 = some 1 := by kernel_rfl
@[simp] theorem bytes_65 : bytes Tryz.prog 65 = some 8 := by kernel_rfl
@[simp] theorem szz_65 : szz Tryz.prog 65 = some 1 := by kernel_rfl
@[simp] theorem isAg_65 : isAg Tryz.prog 65 = some false := by kernel_rfl
@[simp] theorem zeroC_65 : zeroC Tryz.prog 65 = some [.v .any] := by kernel_rfl
@[simp] theorem sz_66 : sz Tryz.prog 66 = some 1 := by kernel_rfl
@[simp] theorem bytes_66 : bytes Tryz.prog 66 = some 8 := by kernel_rfl
@[simp] theorem szz_66 : szz Tryz.prog 66 = some 1 := by kernel_rfl
@[simp] theorem isAg_66 : isAg Tryz.prog 66 = some false := by kernel_rfl
@[simp] theorem zeroC_66 : zeroC Tryz.prog 66 = some [.v .any] := by kernel_rfl
@[simp] theorem sz_67 : sz Tryz.prog 67 = some 1 := by kernel_rfl
@[simp] theorem bytes_67 : bytes Tryz.prog 67 = some 8 := by kernel_rfl
@[simp] theorem szz_67 : szz Tryz.prog 67 = some 1 := by kernel_rfl
@[simp] theorem isAg_67 : isAg Tryz.prog 67 = some false := by kernel_rfl
@[simp] theorem zeroC_67 : zeroC Tryz.prog 67 = some [.v .any] := by kernel_rfl
@[simp] theorem sz_68 : sz Tryz.prog 68 = some 1 := by kernel_rfl
@[simp] theorem bytes_68 : bytes Tryz.prog 68 = some 8 := by kernel_rfl
@[simp] theorem szz_68 : szz Tryz.prog 68 = some 1 := by kernel_rfl
@[simp] theorem isAg_68 : isAg Tryz.prog 68 = some false := by kernel_rfl
@[simp] theorem zeroC_68 : zeroC Tryz.prog 68 = some [.v .any] := by kernel_rfl
@[simp] theorem sz_69 : sz Tryz.prog 69 = some 1 := by kernel_rfl
@[simp] theorem bytes_69 : bytes Tryz.prog 69 = some 8 := by kernel_rfl
@[simp] theorem szz_69 : szz Tryz.prog 69 = some 1 := by kernel_rfl
@[simp] theorem isAg_69 : isAg Tryz.prog 69 = some false := by kernel_rfl
@[simp] theorem zeroC_69 : zeroC Tryz.prog 69 = some [.v .any] := by kernel_rfl
@[simp] theorem sz_70 : sz Tryz.prog 70 = some 1 := by kernel_rfl
@[simp] theorem bytes_70 : bytes Tryz.prog 70 = some 8 := by kernel_rfl
@[simp] theorem szz_70 : szz Tryz.prog 70 = some 1 := by kernel_rfl
@[simp] theorem isAg_70 : isAg Tryz.prog 70 = some false := by kernel_rfl
@[simp] theorem zeroC_70 : zeroC Tryz.prog 70 = some [.v .any] := by kernel_rfl
@[simp] theorem sz_71 : sz Tryz.prog 71 = some 1 := by kernel_rfl
@[simp] theorem bytes_71 : bytes Tryz.prog 71 = some 8 := by kernel_rfl
@[simp] theorem szz_71 : szz Tryz.prog 71 = some 1 := by kernel_rfl
@[simp] theorem isAg_71 : isAg Tryz.prog 71 = some false := by kernel_rfl
@[simp] theorem zeroC_71 : zeroC Tryz.prog 71 = some [.v .any] := by kernel_rfl
@[simp] theorem sz_72 : sz Tryz.prog 72 = some 1 := by kernel_rfl
@[simp] theorem bytes_72 : bytes Tryz.prog 72 = some 24 := by kernel_rfl
@[simp] theorem szz_72 : szz Tryz.prog 72 = some 1 := by kernel_rfl
@[simp] theorem isAg_72 : isAg Tryz.prog 72 = some false := by kernel_rfl
@[simp] theorem elT_72 : elT Tryz.prog 72 = some 126 := by kernel_rfl
@[simp] theorem isStr_72 : isStr Tryz.prog 72 = some false := by kernel_rfl
@[simp] theorem zeroC_72 : zeroC Tryz.prog 72 = some [.nil] := by kernel_rfl
@[simp] theorem sz_73 : sz Tryz.prog 73 = some 2 := by kernel_rfl
@[simp] theorem bytes_73 : bytes Tryz.prog 73 = some 32 := by kernel_rfl
@[simp] theorem szz_73 : szz Tryz.prog 73 = some 2 := by kernel_rfl
@[simp] theorem isAg_73 : isAg Tryz.prog 73 = some true := by kernel_rfl
@[simp] theorem zeroC_73 : zeroC Tryz.prog 73 = some [.v (.int .i64 0), .nil] := by kernel_rfl
@[simp] theorem fieldsOk_73 : fieldsOk Tryz.prog 73 = true := by kernel_rfl
@[simp] theorem fo_73_0 : fo Tryz.prog 73 0 = some 0 := by kernel_rfl
@[simp] theorem fld_73_0 : fld Tryz.prog 73 0 = some (3, 0) := by kernel_rfl
@[simp] theorem fsz_73_0 : fsz Tryz.prog 73 0 = some 1 := by kernel_rfl
@[simp] theorem fo_73_1 : fo Tryz.prog 73 1 = some 1 := by kernel_rfl
@[simp] theorem fld_73_1 : fld Tryz.prog 73 1 = some (72, 1) := by kernel_rfl
@[simp] theorem fsz_73_1 : fsz Tryz.prog 73 1 = some 1 := by kernel_rfl
@[simp] theorem sz_74 : sz Tryz.prog 74 = some 2 := by kernel_rfl
@[simp] theorem bytes_74 : bytes Tryz.prog 74 = some 32 := by kernel_rfl
@[simp] theorem szz_74 : szz Tryz.prog 74 = some 2 := by kernel_rfl
@[simp] theorem isAg_74 : isAg Tryz.prog 74 = some true := by kernel_rfl
@[simp] theorem zeroC_74 : zeroC Tryz.prog 74 = some [.v (.int .i64 0), .nil] := by kernel_rfl
@[simp] theorem fieldsOk_74 : fieldsOk Tryz.prog 74 = true := by kernel_rfl
@[simp] theorem fo_74_0 : fo Tryz.prog 74 0 = some 0 := by kernel_rfl
@[simp] theorem fld_74_0 : fld Tryz.prog 74 0 = some (3, 0) := by kernel_rfl
@[simp] theorem fsz_74_0 : fsz Tryz.prog 74 0 = some 1 := by kernel_rfl
@[simp] theorem fo_74_1 : fo Tryz.prog 74 1 = some 1 := by kernel_rfl
@[simp] theorem fld_74_1 : fld Tryz.prog 74 1 = some (72, 1) := by kernel_rfl
@[simp] theorem fsz_74_1 : fsz Tryz.prog 74 1 = some 1 := by kernel_rfl
@[simp] theorem sz_76 : sz Tryz.prog 76 = some 1 := by kernel_rfl
@[simp] theorem bytes_76 : bytes Tryz.prog 76 = some 8 := by kernel_rfl
@[simp] theorem szz_76 : szz Tryz.prog 76 = some 1 := by kernel_rfl
@[simp] theorem isAg_76 : isAg Tryz.prog 76 = some false := by kernel_rfl
@[simp] theorem zeroC_76 : zeroC Tryz.prog 76 = some [.v .any] := by kernel_rfl
@[simp] theorem sz_77 : sz Tryz.prog 77 = some 1 := by kernel_rfl
@[simp] theorem bytes_77 : bytes Tryz.prog 77 = some 8 := by kernel_rfl
@[simp] theorem szz_77 : szz Tryz.prog 77 = some 1 := by kernel_rfl
@[simp] theorem isAg_77 : isAg Tryz.prog 77 = some false := by kernel_rfl
@[simp] theorem zeroC_77 : zeroC Tryz.prog 77 = some [.v .any] := by kernel_rfl
@[simp] theorem sz_79 : sz Tryz.prog 79 = some 1 := by kernel_rfl
@[simp] theorem bytes_79 : bytes Tryz.prog 79 = some 8 := by kernel_rfl
@[simp] theorem szz_79 : szz Tryz.prog 79 = some 1 := by kernel_rfl
@[simp] theorem isAg_79 : isAg Tryz.prog 79 = some false := by kernel_rfl
@[simp] theorem zeroC_79 : zeroC Tryz.prog 79 = some [.v .any] := by kernel_rfl
@[simp] theorem sz_80 : sz Tryz.prog 80 = some 1 := by kernel_rfl
@[simp] theorem bytes_80 : bytes Tryz.prog 80 = some 8 := by kernel_rfl
@[simp] theorem szz_80 : szz Tryz.prog 80 = some 1 := by kernel_rfl
@[simp] theorem isAg_80 : isAg Tryz.prog 80 = some false := by kernel_rfl
@[simp] theorem zeroC_80 : zeroC Tryz.prog 80 = some [.v .any] := by kernel_rfl
@[simp] theorem sz_81 : sz Tryz.prog 81 = some 1 := by kernel_rfl
@[simp] theorem bytes_81 : bytes Tryz.prog 81 = some 8 := by kernel_rfl
@[simp] theorem szz_81 : szz Tryz.prog 81 = some 1 := by kernel_rfl
@[simp] theorem isAg_81 : isAg Tryz.prog 81 = some false := by kernel_rfl
@[simp] theorem zeroC_81 : zeroC Tryz.prog 81 = some [.v .any] := by kernel_rfl
@[simp] theorem sz_82 : sz Tryz.prog 82 = some 1 := by kernel_rfl
@[simp] theorem bytes_82 : bytes Tryz.prog 82 = some 8 := by kernel_rfl
@[simp] theorem szz_82 : szz Tryz.prog 82 = some 1 := by kernel_rfl
@[simp] theorem isAg_82 : isAg Tryz.prog 82 = some false := by kernel_rfl
@[simp] theorem zeroC_82 : zeroC Tryz.prog 82 = some [.v .any] := by kernel_rfl
@[simp] theorem sz_83 : sz Tryz.prog 83 = some 1 := by kernel_rfl
@[simp] theorem bytes_83 : bytes Tryz.prog 83 = some 8 := by kernel_rfl
@[simp] theorem szz_83 : szz Tryz.prog 83 = some 1 := by kernel_rfl
@[simp] theorem isAg_83 : isAg Tryz.prog 83 = some false := by kernel_rfl
@[simp] theorem zeroC_83 : zeroC Tryz.prog 83 = some [.v .any] := by kernel_rfl
@[simp] theorem sz_84 : sz Tryz.prog 84 = some 1 := by kernel_rfl
@[simp] theorem bytes_84 : bytes Tryz.prog 84 = some 8 := by kernel_rfl
@[simp] theorem szz_84 : szz Tryz.prog 84 = some 1 := by kernel_rfl
@[simp] theorem isAg_84 : isAg Tryz.prog 84 = some false := by kernel_rfl
@[simp] theorem zeroC_84 : zeroC Tryz.prog 84 = some [.v .any] := by kernel_rfl
@[simp] theorem sz_85 : sz Tryz.prog 85 = some 1 := by kernel_rfl
@[simp] theorem bytes_85 : bytes Tryz.prog 85 = some 8 := by kernel_rfl
@[simp] theorem szz_85 : szz Tryz.prog 85 = some 1 := by kernel_rfl
@[simp] theorem isAg_85 : isAg Tryz.prog 85 = some false := by kernel_rfl
@[simp] theorem zeroC_85 : zeroC Tryz.prog 85 = some [.v .any] := by kernel_rfl
@[simp] theorem sz_86 : sz Tryz.prog 86 = some 1 := by kernel_rfl
@[simp] theorem bytes_86 : bytes Tryz.prog 86 = some 8 := by kernel_rfl
@[simp] theorem szz_86 : szz Tryz.prog 86 = some 1 := by kernel_rfl
@[simp] theorem isAg_86 : isAg Tryz.prog 86 = some false := by kernel_rfl
@[simp] theorem zeroC_86 : zeroC Tryz.prog 86 = some [.v .any] := by kernel_rfl
@[simp] theorem sz_87 : sz Tryz.prog 87 = some 1 := by kernel_rfl
@[simp] theorem bytes_87 : bytes Tryz.prog 87 = some 8 := by kernel_rfl
@[simp] theorem szz_87 : szz Tryz.prog 87 = some 1 := by kernel_rfl
@[simp] theorem isAg_87 : isAg Tryz.prog 87 = some false := by kernel_rfl
@[simp] theorem zeroC_87 : zeroC Tryz.prog 87 = some [.v .any] := by kernel_rfl
@[simp] theorem sz_88 : sz Tryz.prog 88 = some 1 := by kernel_rfl
@[simp] theorem bytes_88 : bytes Tryz.prog 88 = some 8 := by kernel_rfl
@[simp] theorem szz_88 : szz Tryz.prog 88 = some 1 := by kernel_rfl
@[simp] theorem isAg_88 : isAg Tryz.prog 88 = some false := by kernel_rfl
@[simp] theorem zeroC_88 : zeroC Tryz.prog 88 = some [.v .any] := by kernel_rfl
@[simp] theorem sz_90 : sz Tryz.prog 90 = some 1 := by kernel_rfl
@[simp] theorem bytes_90 : bytes Tryz.prog 90 = some 8 := by kernel_rfl
@[simp] theorem szz_90 : szz Tryz.prog 90 = some 1 := by kernel_rfl
@[simp] theorem isAg_90 : isAg Tryz.prog 90 = some false := by kernel_rfl
@[simp] theorem zeroC_90 : zeroC Tryz.prog 90 = some [.v .any] := by kernel_rfl
@[simp] theorem sz_92 : sz Tryz.prog 92 = some 1 := by kernel_rfl
@[simp] theorem bytes_92 : bytes Tryz.prog 92 = some 8 := by kernel_rfl
@[simp] theorem szz_92 : szz Tryz.prog 92 = some 1 := by kernel_rfl
@[simp] theorem isAg_92 : isAg Tryz.prog 92 = some false := by kernel_rfl
@[simp] theorem zeroC_92 : zeroC Tryz.prog 92 = some [.v .any] := by kernel_rfl
@[simp] theorem sz_93 : sz Tryz.prog 93 = some 1 := by kernel_rfl
@[simp] theorem bytes_93 : bytes Tryz.prog 93 = some 8 := by kernel_rfl
@[simp] theorem szz_93 : szz Tryz.prog 93 = some 1 := by kernel_rfl
@[simp] theorem isAg_93 : isAg Tryz.prog 93 = some false := by kernel_rfl
@[simp] theorem zeroC_93 : zeroC Tryz.prog 93 = some [.v .any] := by kernel_rfl
@[simp] theorem sz_94 : sz Tryz.prog 94 = some 1 := by kernel_rfl
@[simp] theorem bytes_94 : bytes Tryz.prog 94 = some 8 := by kernel_rfl
@[simp] theorem szz_94 : szz Tryz.prog 94 = some 1 := by kernel_rfl
@[simp] theorem isAg_94 : isAg Tryz.prog 94 = some false := by kernel_rfl
@[simp] theorem zeroC_94 : zeroC Tryz.prog 94 = some [.v .any] := by kernel_rfl
@[simp] theorem sz_95 : sz Tryz.prog 95 = some 1 := by kernel_rfl
@[simp] theorem bytes_95 : bytes Tryz.prog 95 = some 8 := by kernel_rfl
@[simp] theorem szz_95 : szz Tryz.prog 95 = some 1 := by kernel_rfl
@[simp] theorem isAg_95 : isAg Tryz.prog 95 = some false := by kernel_rfl
@[simp] theorem zeroC_95 : zeroC Tryz.prog 95 = some [.v .any] := by kernel_rfl
@[simp] theorem sz_96 : sz Tryz.prog 96 = some 1 := by kernel_rfl
@[simp] theorem bytes_96 : bytes Tryz.prog 96 = some 8 := by kernel_rfl
@[simp] theorem szz_96 : szz Tryz.prog 96 = some 1 := by kernel_rfl
@[simp] theorem isAg_96 : isAg Tryz.prog 96 = some false := by kernel_rfl
@[simp] theorem zeroC_96 : zeroC Tryz.prog 96 = some [.v .any] := by kernel_rfl
@[simp] theorem sz_97 : sz Tryz.prog 97 = some 1 := by kernel_rfl
@[simp] theorem bytes_97 : bytes Tryz.prog 97 = some 8 := by kernel_rfl
@[simp] theorem szz_97 : szz Tryz.prog 97 = some 1 := by kernel_rfl
@[simp] theorem isAg_97 : isAg Tryz.prog 97 = some false := by kernel_rfl
@[simp] theorem zeroC_97 : zeroC Tryz.prog 97 = some [.v .any] := by kernel_rfl
@[simp] theorem sz_98 : sz Tryz.prog 98 = some 1 := by kernel_rfl
@[simp] theorem bytes_98 : bytes Tryz.prog 98 = some 8 := by kernel_rfl
@[simp] theorem szz_98 : szz Tryz.prog 98 = some 1 := by kernel_rfl
@[simp] theorem isAg_98 : isAg Tryz.prog 98 = some false := by kernel_rfl
@[simp] theorem zeroC_98 : zeroC Tryz.prog 98 = some [.v .any] := by kernel_rfl
@[simp] theorem sz_100 : sz Tryz.prog 100 = some 1 := by kernel_rfl
@[simp] theorem bytes_100 : bytes Tryz.prog 100 = some 8 := by kernel_rfl
@[simp] theorem szz_100 : szz Tryz.prog 100 = some 1 := by kernel_rfl
@[simp] theorem isAg_100 : isAg Tryz.prog 100 = some false := by kernel_rfl
@[simp] theorem zeroC_100 : zeroC Tryz.prog 100 = some [.v .any] := by kernel_rfl
@[simp] theorem sz_101 : sz Tryz.prog 101 = some 1 := by kernel_rfl
@[simp] theorem bytes_101 : bytes Tryz.prog 101 = some 8 := by kernel_rfl
@[simp] theorem szz_101 : szz Tryz.prog 101 = some 1 := by kernel_rfl
@[simp] theorem isAg_101 : isAg Tryz.prog 101 = some false := by kernel_rfl
@[simp] theorem zeroC_101 : zeroC Tryz.prog 101 = some [.v .any] := by kernel_rfl
@[simp] theorem sz_102 : sz Tryz.prog 102 = some 1 := by kernel_rfl
@[simp] theorem bytes_102 : bytes Tryz.prog 102 = some 8 := by kernel_rfl
@[simp] theorem szz_102 : szz Tryz.prog 102 = some 1 := by kernel_rfl
@[simp] theorem isAg_102 : isAg Tryz.prog 102 = some false := by kernel_rfl
@[simp] theorem zeroC_102 : zeroC Tryz.prog 102 = some [.v .any] := by kernel_rfl
@[simp] theorem sz_103 : sz Tryz.prog 103 = some 1 := by kernel_rfl
@[simp] theorem bytes_103 : bytes Tryz.prog 103 = some 8 := by kernel_rfl
@[simp] theorem szz_103 : szz Tryz.prog 103 = some 1 := by kernel_rfl
@[simp] theorem isAg_103 : isAg Tryz.prog 103 = some false := by kernel_rfl
@[simp] theorem zeroC_103 : zeroC Tryz.prog 103 = some [.v .any] := by kernel_rfl
@[simp] theorem sz_104 : sz Tryz.prog 104 = some 1 := by kernel_rfl
@[simp] theorem bytes_104 : bytes Tryz.prog 104 = some 24 := by kernel_rfl
@[simp] theorem szz_104 : szz Tryz.prog 104 = some 1 := by kernel_rfl
@[simp] theorem isAg_104 : isAg Tryz.prog 104 = some false := by kernel_rfl
@[simp] theorem elT_104 : elT Tryz.prog 104 = some 9 := by kernel_rfl
@[simp] theorem isStr_104 : isStr Tryz.prog 104 = some false := by kernel_rfl
@[simp] theorem zeroC_104 : zeroC Tryz.prog 104 = some [.nil] := by kernel_rfl
@[simp] theorem sz_105 : sz Tryz.prog 105 = some 1 := by kernel_rfl
@[simp] theorem bytes_105 : bytes Tryz.prog 105 = some 8 := by kernel_rfl
@[simp] theorem szz_105 : szz Tryz.prog 105 = some 1 := by kernel_rfl
@[simp] theorem isAg_105 : isAg Tryz.prog 105 = some false := by kernel_rfl
@[simp] theorem zeroC_105 : zeroC Tryz.prog 105 = some [.v .any] := by kernel_rfl
@[simp] theorem sz_106 : sz Tryz.prog 106 = some 1 := by kernel_rfl
@[simp] theorem bytes_106 : bytes Tryz.prog 106 = some 8 := by kernel_rfl
@[simp] theorem szz_106 : szz Tryz.prog 106 = some 1 := by kernel_rfl
@[simp] theorem isAg_106 : isAg Tryz.prog 106 = some false := by kernel_rfl
@[simp] theorem zeroC_106 : zeroC Tryz.prog 106 = some [.v .any] := by kernel_rfl
@[simp] theorem sz_107 : sz Tryz.prog 107 = some 1 := by kernel_rfl
@[simp] theorem bytes_107 : bytes Tryz.prog 107 = some 8 := by kernel_rfl
@[simp] theorem szz_107 : szz Tryz.prog 107 = some 1 := by kernel_rfl
@[simp] theorem isAg_107 : isAg Tryz.prog 107 = some false := by kernel_rfl
@[simp] theorem zeroC_107 : zeroC Tryz.prog 107 = some [.v .any] := by kernel_rfl
@[simp] theorem sz_108 : sz Tryz.prog 108 = some 1 := by kernel_rfl
@[simp] theorem bytes_108 : bytes Tryz.prog 108 = some 24 := by kernel_rfl
@[simp] theorem szz_108 : szz Tryz.prog 108 = some 1 := by kernel_rfl
@[simp] theorem isAg_108 : isAg Tryz.prog 108 = some false := by kernel_rfl
@[simp] theorem elT_108 : elT Tryz.prog 108 = some 5 := by kernel_rfl
@[simp] theorem isStr_108 : isStr Tryz.prog 108 = some false := by kernel_rfl
@[simp] theorem zeroC_108 : zeroC Tryz.prog 108 = some [.nil] := by kernel_rfl
@[simp] theorem sz_109 : sz Tryz.prog 109 = some 1 := by kernel_rfl
@[simp] theorem bytes_109 : bytes Tryz.prog 109 = some 8 := by kernel_rfl
@[simp] theorem szz_109 : szz Tryz.prog 109 = some 1 := by kernel_rfl
@[simp] theorem isAg_109 : isAg Tryz.prog 109 = some false := by kernel_rfl
@[simp] theorem zeroC_109 : zeroC Tryz.prog 109 = some [.v .any] := by kernel_rfl
@[simp] theorem sz_110 : sz Tryz.prog 110 = some 1 := by kernel_rfl
@[simp] theorem bytes_110 : bytes Tryz.prog 110 = some 8 := by kernel_rfl
@[simp] theorem szz_110 : szz Tryz.prog 110 = some 1 := by kernel_rfl
@[simp] theorem isAg_110 : isAg Tryz.prog 110 = some false := by kernel_rfl
@[simp] theorem zeroC_110 : zeroC Tryz.prog 110 = some [.v .any] := by kernel_rfl
@[simp] theorem sz_112 : sz Tryz.prog 112 = some 1 := by kernel_rfl
@[simp] theorem bytes_112 : bytes Tryz.prog 112 = some 8 := by kernel_rfl
@[simp] theorem szz_112 : szz Tryz.prog 112 = some 1 := by kernel_rfl
@[simp] theorem isAg_112 : isAg Tryz.prog 112 = some false := by kernel_rfl
@[simp] theorem zeroC_112 : zeroC Tryz.prog 112 = some [.v .any] := by kernel_rfl
@[simp] theorem sz_113 : sz Tryz.prog 113 = some 1 := by kernel_rfl
@[simp] theorem bytes_113 : bytes Tryz.prog 113 = some 8 := by kernel_rfl
@[simp] theorem szz_113 : szz Tryz.prog 113 = some 1 := by kernel_rfl
@[simp] theorem isAg_113 : isAg Tryz.prog 113 = some false := by kernel_rfl
@[simp] theorem zeroC_113 : zeroC Tryz.prog 113 = some [.v .any] := by kernel_rfl
@[simp] theorem sz_114 : sz Tryz.prog 114 = some 1 := by kernel_rfl
@[simp] theorem bytes_114 : bytes Tryz.prog 114 = some 24 := by kernel_rfl
@[simp] theorem szz_114 : szz Tryz.prog 114 = some 1 := by kernel_rfl
@[simp] theorem isAg_114 : isAg Tryz.prog 114 = some false := by kernel_rfl
@[simp] theorem elT_114 : elT Tryz.prog 114 = some 161 := by kernel_rfl
@[simp] theorem isStr_114 : isStr Tryz.prog 114 = some false := by kernel_rfl
@[simp] theorem zeroC_114 : zeroC Tryz.prog 114 = some [.nil] := by kernel_rfl
@[simp] theorem sz_115 : sz Tryz.prog 115 = some 2 := by kernel_rfl
@[simp] theorem bytes_115 : bytes Tryz.prog 115 = some 32 := by kernel_rfl
@[simp] theorem szz_115 : szz Tryz.prog 115 = some 2 := by kernel_rfl
@[simp] theorem isAg_115 : isAg Tryz.prog 115 = some true := by kernel_rfl
@[simp] theorem zeroC_115 : zeroC Tryz.prog 115 = some [.v (.int .i64 0), .nil] := by kernel_rfl
@[simp] theorem fieldsOk_115 : fieldsOk Tryz.prog 115 = true := by kernel_rfl
@[simp] theorem fo_115_0 : fo Tryz.prog 115 0 = some 0 := by kernel_rfl
@[simp] theorem fld_115_0 : fld Tryz.prog 115 0 = some (3, 0) := by kernel_rfl
@[simp] theorem fsz_115_0 : fsz Tryz.prog 115 0 = some 1 := by kernel_rfl
@[simp] theorem fo_115_1 : fo Tryz.prog 115 1 = some 1 := by kernel_rfl
@[simp] theorem fld_115_1 : fld Tryz.prog 115 1 = some (114, 1) := by kernel_rfl
@[simp] theorem fsz_115_1 : fsz Tryz.prog 115 1 = some 1 := by kernel_rfl
@[simp] theorem sz_116 : sz Tryz.prog 116 = some 2 := by kernel_rfl
@[simp] theorem bytes_116 : bytes Tryz.prog 116 = some 32 := by kernel_rfl
@[simp] theorem szz_116 : szz Tryz.prog 116 = some 2 := by kernel_rfl
@[simp] theorem isAg_116 : isAg Tryz.prog 116 = some true := by kernel_rfl
@[simp] theorem zeroC_116 : zeroC Tryz.prog 116 = some [.v (.int .i64 0), .nil] := by kernel_rfl
@[simp] theorem fieldsOk_116 : fieldsOk Tryz.prog 116 = true := by kernel_rfl
@[simp] theorem fo_116_0 : fo Tryz.prog 116 0 = some 0 := by kernel_rfl
@[simp] theorem fld_116_0 : fld Tryz.prog 116 0 = some (3, 0) := by kernel_rfl
@[simp] theorem fsz_116_0 : fsz Tryz.prog 116 0 = some 1 := by kernel_rfl
@[simp] theorem fo_116_1 : fo Tryz.prog 116 1 = some 1 := by kernel_rfl
@[simp] theorem fld_116_1 : fld Tryz.prog 116 1 = some (114, 1) := by kernel_rfl
@[simp] theorem fsz_116_1 : fsz Tryz.prog 116 1 = some 1 := by kernel_rfl
@[simp] theorem sz_117 : sz Tryz.prog 117 = some 1 := by kernel_rfl
@[simp] theorem bytes_117 : bytes Tryz.prog 117 = some 8 := by kernel_rfl
@[simp] theorem szz_117 : szz Tryz.prog 117 = some 1 := by kernel_rfl
@[simp] theorem isAg_117 : isAg Tryz.prog 117 = some false := by kernel_rfl
@[simp] theorem zeroC_117 : zeroC Tryz.prog 117 = some [.v .any] := by kernel_rfl
@[simp] theorem sz_118 : sz Tryz.prog 118 = some 1 := by kernel_rfl
@[simp] theorem bytes_118 : bytes Tryz.prog 118 = some 8 := by kernel_rfl
@[simp] theorem szz_118 : szz Tryz.prog 118 = some 1 := by kernel_rfl
@[simp] theorem isAg_118 : isAg Tryz.prog 118 = some false := by kernel_rfl
@[simp] theorem zeroC_118 : zeroC Tryz.prog 118 = some [.v .any] := by kernel_rfl
@[simp] theorem sz_119 : sz Tryz.prog 119 = some 1 := by kernel_rfl
@[simp] theorem bytes_119 : bytes Tryz.prog 119 = some 8 := by kernel_rfl
@[simp] theorem szz_119 : szz Tryz.prog 119 = some 1 := by kernel_rfl
@[simp] theorem isAg_119 : isAg Tryz.prog 119 = some false := by kernel_rfl
@[simp] theorem zeroC_119 : zeroC Tryz.prog 119 = some [.v .any] := by kernel_rfl
@[simp] theorem sz_120 : sz Tryz.prog 120 = some 1 := by kernel_rfl
@[simp] theorem bytes_120 : bytes Tryz.prog 120 = some 8 := by kernel_rfl
@[simp] theorem szz_120 : szz Tryz.prog 120 = some 1 := by kernel_rfl
@[simp] theorem isAg_120 : isAg Tryz.prog 120 = some false := by kernel_rfl
@[simp] theorem zeroC_120 : zeroC Tryz.prog 120 = some [.v .any] := by kernel_rfl
@[simp] theorem sz_122 : sz Tryz.prog 122 = some 1 := by kernel_rfl
@[simp] theorem bytes_122 : bytes Tryz.prog 122 = some 8 := by kernel_rfl
@[simp] theorem szz_122 : szz Tryz.prog 122 = some 1 := by kernel_rfl
@[simp] theorem isAg_122 : isAg Tryz.prog 122 = some false := by kernel_rfl
@[simp] theorem zeroC_122 : zeroC Tryz.prog 122 = some [.v .any] := by kernel_rfl
@[simp] theorem sz_123 : sz Tryz.prog 123 = some 1 := by kernel_rfl
@[simp] theorem bytes_123 : bytes Tryz.prog 123 = some 8 := by kernel_rfl
@[simp] theorem szz_123 : szz Tryz.prog 123 = some 1 := by kernel_rfl
@[simp] theorem isAg_123 : isAg Tryz.prog 123 = some false := by kernel_rfl
@[simp] theorem zeroC_123 : zeroC Tryz.prog 123 = some [.v .any] := by kernel_rfl
@[simp] theorem sz_124 : sz Tryz.prog 124 = some 1 := by kernel_rfl
@[simp] theorem bytes_124 : bytes Tryz.prog 124 = some 8 := by kernel_rfl
@[simp] theorem szz_124 : szz Tryz.prog 124 = some 1 := by kernel_rfl
@[simp] theorem isAg_124 : isAg Tryz.prog 124 = some false := by kernel_rfl
@[simp] theorem zeroC_124 : zeroC Tryz.prog 124 = some [.v .any] := by kernel_rfl
@[simp] theorem sz_125 : sz Tryz.prog 125 = some 2 := by kernel_rfl
@[simp] theorem bytes_125 : bytes Tryz.prog 125 = some 16 := by kernel_rfl
@[simp] theorem szz_125 : szz Tryz.prog 125 = some 2 := by kernel_rfl
@[simp] theorem isAg_125 : isAg Tryz.prog 125 = some true := by kernel_rfl
@[simp] theorem zeroC_125 : zeroC Tryz.prog 125 = some [.v (.int .i64 0), .v (.int .i64 0)] := by kernel_rfl
@[simp] theorem fieldsOk_125 : fieldsOk Tryz.prog 125 = true := by kernel_rfl
@[simp] theorem eqKinds_125 : eqKinds Tryz.prog 125 = some [1, 1] := by kernel_rfl
@[simp] theorem fo_125_0 : fo Tryz.prog 125 0 = some 0 := by kernel_rfl
@[simp] theorem fld_125_0 : fld Tryz.prog 125 0 = some (3, 0) := by kernel_rfl
@[simp] theorem fsz_125_0 : fsz Tryz.prog 125 0 = some 1 := by kernel_rfl
@[simp] theorem fo_125_1 : fo Tryz.prog 125 1 = some 1 := by kernel_rfl
@[simp] theorem fld_125_1 : fld Tryz.prog 125 1 = some (3, 1) := by kernel_rfl
@[simp] theorem fsz_125_1 : fsz Tryz.prog 125 1 = some 1 := by kernel_rfl
@[simp] theorem sz_126 : sz Tryz.prog 126 = some 2 := by kernel_rfl
@[simp] theorem bytes_126 : bytes Tryz.prog 126 = some 16 := by kernel_rfl
@[simp] theorem szz_126 : szz Tryz.prog 126 = some 2 := by kernel_rfl
@[simp] theorem isAg_126 : isAg Tryz.prog 126 = some true := by kernel_rfl
@[simp] theorem zeroC_126 : zeroC Tryz.prog 126 = some [.v (.int .i64 0), .v (.int .i64 0)] := by kernel_rfl
@[simp] theorem fieldsOk_126 : fieldsOk Tryz.prog 126 = true := by kernel_rfl
@[simp] theorem eqKinds_126 : eqKinds Tryz.prog 126 = some [1, 1] := by kernel_rfl
@[simp] theorem fo_126_0 : fo Tryz.prog 126 0 = some 0 := by kernel_rfl
@[simp] theorem fld_126_0 : fld Tryz.prog 126 0 = some (3, 0) := by kernel_rfl
@[simp] theorem fsz_126_0 : fsz Tryz.prog 126 0 = some 1 := by kernel_rfl
@[simp] theorem fo_126_1 : fo Tryz.prog 126 1 = some 1 := by kernel_rfl
@[simp] theorem fld_126_1 : fld Tryz.prog 126 1 = some (3, 1) := by kernel_rfl
@[simp] theorem fsz_126_1 : fsz Tryz.prog 126 1 = some 1 := by kernel_rfl
@[simp] theorem sz_127 : sz Tryz.prog 127 = some 1 := by kernel_rfl
@[simp] theorem bytes_127 : bytes Tryz.prog 127 = some 8 := by kernel_rfl
@[simp] theorem szz_127 : szz Tryz.prog 127 = some 1 := by kernel_rfl
@[simp] theorem isAg_127 : isAg Tryz.prog 127 = some false := by kernel_rfl
@[simp] theorem intK_127 : intK Tryz.prog 127 = some .u64 := by kernel_rfl
@[simp] theorem zeroC_127 : zeroC Tryz.prog 127 = some [.v (.int .u64 0)] := by kernel_rfl
@[simp] theorem sz_128 : sz Tryz.prog 128 = some 1 := by kernel_rfl
@[simp] theorem bytes_128 : bytes Tryz.prog 128 = some 8 := by kernel_rfl
@[simp] theorem szz_128 : szz Tryz.prog 128 = some 1 := by kernel_rfl
@[simp] theorem isAg_128 : isAg Tryz.prog 128 = some false := by kernel_rfl
@[simp] theorem zeroC_128 : zeroC Tryz.prog 128 = some [.v .any] := by kernel_rfl
@[simp] theorem sz_129 : sz Tryz.prog 129 = some 1 := by kernel_rfl
@[simp] theorem bytes_129 : bytes Tryz.prog 129 = some 8 := by kernel_rfl
@[simp] theorem szz_129 : szz Tryz.prog 129 = some 1 := by kernel_rfl
@[simp] theorem isAg_129 : isAg Tryz.prog 129 = some false := by kernel_rfl
@[simp] theorem zeroC_129 : zeroC Tryz.prog 129 = some [.v .any] := by kernel_rfl
@[simp] theorem sz_130 : sz Tryz.prog 130 = some 2 := by kernel_rfl
@[simp] theorem bytes_130 : bytes Tryz.prog 130 = some 32 := by kernel_rfl
@[simp] theorem szz_130 : szz Tryz.prog 130 = some 2 := by kernel_rfl
@[simp] theorem isAg_130 : isAg Tryz.prog 130 = some true := by kernel_rfl
@[simp] theorem fieldsOk_130 : fieldsOk Tryz.prog 130 = true := by kernel_rfl
@[simp] theorem fo_130_0 : fo Tryz.prog 130 0 = some 0 := by kernel_rfl
@[simp] theorem fld_130_0 : fld Tryz.prog 130 0 = some (129, 0) := by kernel_rfl
@[simp] theorem fsz_130_0 : fsz Tryz.prog 130 0 = some 1 := by kernel_rfl
@[simp] theorem fo_130_1 : fo Tryz.prog 130 1 = some 1 := by kernel_rfl
@[simp] theorem fld_130_1 : fld Tryz.prog 130 1 = some (108, 1) := by kernel_rfl
@[simp] theorem fsz_130_1 : fsz Tryz.prog 130 1 = some 1 := by kernel_rfl
@[simp] theorem sz_131 : sz Tryz.prog 131 = some 2 := by kernel_rfl
@[simp] theorem bytes_131 : bytes Tryz.prog 131 = some 32 := by kernel_rfl
@[simp] theorem szz_131 : szz Tryz.prog 131 = some 2 := by kernel_rfl
@[simp] theorem isAg_131 : isAg Tryz.prog 131 = some true := by kernel_rfl
@[simp] theorem fieldsOk_131 : fieldsOk Tryz.prog 131 = true := by kernel_rfl
@[simp] theorem fo_131_0 : fo Tryz.prog 131 0 = some 0 := by kernel_rfl
@[simp] theorem fld_131_0 : fld Tryz.prog 131 0 = some (129, 0) := by kernel_rfl
@[simp] theorem fsz_131_0 : fsz Tryz.prog 131 0 = some 1 := by kernel_rfl
@[simp] theorem fo_131_1 : fo Tryz.prog 131 1 = some 1 := by kernel_rfl
@[simp] theorem fld_131_1 : fld Tryz.prog 131 1 = some (108, 1) := by kernel_rfl
@[simp] theorem fsz_131_1 : fsz Tryz.prog 131 1 = some 1 := by kernel_rfl
@[simp] theorem sz_132 : sz Tryz.prog 132 = some 1 := by kernel_rfl
@[simp] theorem bytes_132 : bytes Tryz.prog 132 = some 8 := by kernel_rfl
@[simp] theorem szz_132 : szz Tryz.prog 132 = some 1 := by kernel_rfl
@[simp] theorem isAg_132 : isAg Tryz.prog 132 = some false := by kernel_rfl
@[simp] theorem zeroC_132 : zeroC Tryz.prog 132 = some [.v .any] := by kernel_rfl
@[simp] theorem sz_136 : sz Tryz.prog 136 = some 1 := by kernel_rfl
@[simp] theorem bytes_136 : bytes Tryz.prog 136 = some 8 := by kernel_rfl
@[simp] theorem szz_136 : szz Tryz.prog 136 = some 1 := by kernel_rfl
@[simp] theorem isAg_136 : isAg Tryz.prog 136 = some false := by kernel_rfl
@[simp] theorem zeroC_136 : zeroC Tryz.prog 136 = some [.v .any] := by kernel_rfl
@[simp] theorem sz_137 : sz Tryz.prog 137 = some 1 := by kernel_rfl
@[simp] theorem bytes_137 : bytes Tryz.prog 137 = some 8 := by kernel_rfl
@[simp] theorem szz_137 : szz Tryz.prog 137 = some 1 := by kernel_rfl
@[simp] theorem isAg_137 : isAg Tryz.prog 137 = some false := by kernel_rfl
@[simp] theorem zeroC_137 : zeroC Tryz.prog 137 = some [.v .any] := by kernel_rfl
@[simp] theorem sz_138 : sz Tryz.prog 138 = some 1 := by kernel_rfl
@[simp] theorem bytes_138 : bytes Tryz.prog 138 = some 8 := by kernel_rfl
@[simp] theorem szz_138 : szz Tryz.prog 138 = some 1 := by kernel_rfl
@[simp] theorem isAg_138 : isAg Tryz.prog 138 = some false := by kernel_rfl
@[simp] theorem zeroC_138 : zeroC Tryz.prog 138 = some [.v .any] := by kernel_rfl
@[simp] theorem sz_139 : sz Tryz.prog 139 = some 1 := by kernel_rfl
@[simp] theorem bytes_139 : bytes Tryz.prog 139 = some 8 := by kernel_rfl
@[simp] theorem szz_139 : szz Tryz.prog 139 = some 1 := by kernel_rfl
@[simp] theorem isAg_139 : isAg Tryz.prog 139 = some false := by kernel_rfl
@[simp] theorem zeroC_139 : zeroC Tryz.prog 139 = some [.v .any] := by kernel_rfl
@[simp] theorem sz_140 : sz Tryz.prog 140 = some 1 := by kernel_rfl
@[simp] theorem bytes_140 : bytes Tryz.prog 140 = some 8 := by kernel_rfl
@[simp] theorem szz_140 : szz Tryz.prog 140 = some 1 := by kernel_rfl
@[simp] theorem isAg_140 : isAg Tryz.prog 140 = some false := by kernel_rfl
@[simp] theorem zeroC_140 : zeroC Tryz.prog 140 = some [.v .any] := by kernel_rfl
@[simp] theorem sz_141 : sz Tryz.prog 141 = some 1 := by kernel_rfl
@[simp] theorem bytes_141 : bytes Tryz.prog 141 = some 8 := by kernel_rfl
@[simp] theorem szz_141 : szz Tryz.prog 141 = some 1 := by kernel_rfl
@[simp] theorem isAg_141 : isAg Tryz.prog 141 = some false := by kernel_rfl
@[simp] theorem zeroC_141 : zeroC Tryz.prog 141 = some [.v .any] := by kernel_rfl
@[simp] theorem sz_143 : sz Tryz.prog 143 = some 1 := by kernel_rfl
@[simp] theorem bytes_143 : bytes Tryz.prog 143 = some 8 := by kernel_rfl
@[simp] theorem szz_143 : szz Tryz.prog 143 = some 1 := by kernel_rfl
@[simp] theorem isAg_143 : isAg Tryz.prog 143 = some false := by kernel_rfl
@[simp] theorem zeroC_143 : zeroC Tryz.prog 143 = some [.v .any] := by kernel_rfl
@[simp] theorem sz_144 : sz Tryz.prog 144 = some 1 := by kernel_rfl
@[simp] theorem bytes_144 : bytes Tryz.prog 144 = some 8 := by kernel_rfl
@[simp] theorem szz_144 : szz Tryz.prog 144 = some 1 := by kernel_rfl
@[simp] theorem isAg_144 : isAg Tryz.prog 144 = some false := by kernel_rfl
@[simp] theorem zeroC_144 : zeroC Tryz.prog 144 = some [.v .any] := by kernel_rfl
@[simp] theorem sz_146 : sz Tryz.prog 146 = some 1 := by kernel_rfl
@[simp] theorem bytes_146 : bytes Tryz.prog 146 = some 8 := by kernel_rfl
@[simp] theorem szz_146 : szz Tryz.prog 146 = some 1 := by kernel_rfl
@[simp] theorem isAg_146 : isAg Tryz.prog 146 = some false := by kernel_rfl
@[simp] theorem zeroC_146 : zeroC Tryz.prog 146 = some [.v .any] := by kernel_rfl
@[simp] theorem sz_147 : sz Tryz.prog 147 = some 1 := by kernel_rfl
@[simp] theorem bytes_147 : bytes Tryz.prog 147 = some 8 := by kernel_rfl
@[simp] theorem szz_147 : szz Tryz.prog 147 = some 1 := by kernel_rfl
@[simp] theorem isAg_147 : isAg Tryz.prog 147 = some false := by kernel_rfl
@[simp] theorem zeroC_147 : zeroC Tryz.prog 147 = some [.v .any] := by kernel_rfl
@[simp] theorem sz_148 : sz Tryz.prog 148 = some 1 := by kernel_rfl
@[simp] theorem bytes_148 : bytes Tryz.prog 148 = some 8 := by kernel_rfl
@[simp] theorem szz_148 : szz Tryz.prog 148 = some 1 := by kernel_rfl
@[simp] theorem isAg_148 : isAg Tryz.prog 148 = some false := by kernel_rfl
@[simp] theorem zeroC_148 : zeroC Tryz.prog 148 = some [.v .any] := by kernel_rfl
@[simp] theorem sz_149 : sz Tryz.prog 149 = some 1 := by kernel_rfl
@[simp] theorem bytes_149 : bytes Tryz.prog 149 = some 8 := by kernel_rfl
@[simp] theorem szz_149 : szz Tryz.prog 149 = some 1 := by kernel_rfl
@[simp] theorem isAg_149 : isAg Tryz.prog 149 = some false := by kernel_rfl
@[simp] theorem zeroC_149 : zeroC Tryz.prog 149 = some [.v .any] := by kernel_rfl
@[simp] theorem sz_150 : sz Tryz.prog 150 = some 1 := by kernel_rfl
@[simp] theorem bytes_150 : bytes Tryz.prog 150 = some 8 := by kernel_rfl
@[simp] theorem szz_150 : szz Tryz.prog 150 = some 1 := by kernel_rfl
@[simp] theorem isAg_150 : isAg Tryz.prog 150 = some false := by kernel_rfl
@[simp] theorem zeroC_150 : zeroC Tryz.prog 150 = some [.v .any] := by kernel_rfl
@[simp] theorem sz_151 : sz Tryz.prog 151 = some 1 := by kernel_rfl
@[simp] theorem bytes_151 : bytes Tryz.prog 151 = some 8 := by kernel_rfl
@[simp] theorem szz_151 : szz Tryz.prog 151 = some 1 := by kernel_rfl
@[simp] theorem isAg_151 : isAg Tryz.prog 151 = some false := by kernel_rfl
@[simp] theorem zeroC_151 : zeroC Tryz.prog 151 = some [.v .any] := by kernel_rfl
@[simp] theorem sz_152 : sz Tryz.prog 152 = some 1 := by kernel_rfl
@[simp] theorem bytes_152 : bytes Tryz.prog 152 = some 8 := by kernel_rfl
@[simp] theorem szz_152 : szz Tryz.prog 152 = some 1 := by kernel_rfl
@[simp] theorem isAg_152 : isAg Tryz.prog 152 = some false := by kernel_rfl
@[simp] theorem zeroC_152 : zeroC Tryz.prog 152 = some [.v .any] := by kernel_rfl
@[simp] theorem sz_153 : sz Tryz.prog 153 = some 1 := by kernel_rfl
@[simp] theorem bytes_153 : bytes Tryz.prog 153 = some 8 := by kernel_rfl
@[simp] theorem szz_153 : szz Tryz.prog 153 = some 1 := by kernel_rfl
@[simp] theorem isAg_153 : isAg Tryz.prog 153 = some false := by kernel_rfl
@[simp] theorem zeroC_153 : zeroC Tryz.prog 153 = some [.v .any] := by kernel_rfl
@[simp] theorem sz_154 : sz Tryz.prog 154 = some 1 := by kernel_rfl
@[simp] theorem bytes_154 : bytes Tryz.prog 154 = some 8 := by kernel_rfl
@[simp] theorem szz_154 : szz Tryz.prog 154 = some 1 := by kernel_rfl
@[simp] theorem isAg_154 : isAg Tryz.prog 154 = some false := by kernel_rfl
@[simp] theorem zeroC_154 : zeroC Tryz.prog 154 = some [.v .any] := by kernel_rfl
@[simp] theorem sz_155 : sz Tryz.prog 155 = some 1 := by kernel_rfl
@[simp] theorem bytes_155 : bytes Tryz.prog 155 = some 8 := by kernel_rfl
@[simp] theorem szz_155 : szz Tryz.prog 155 = some 1 := by kernel_rfl
@[simp] theorem isAg_155 : isAg Tryz.prog 155 = some false := by kernel_rfl
@[simp] theorem zeroC_155 : zeroC Tryz.prog 155 = some [.v .any] := by kernel_rfl
@[simp] theorem sz_156 : sz Tryz.prog 156 = some 1 := by kernel_rfl
@[simp] theorem bytes_156 : bytes Tryz.prog 156 = some 8 := by kernel_rfl
@[simp] theorem szz_156 : szz Tryz.prog 156 = some 1 := by kernel_rfl
@[simp] theorem isAg_156 : isAg Tryz.prog 156 = some false := by kernel_rfl
@[simp] theorem zeroC_156 : zeroC Tryz.prog 156 = some [.v .any] := by kernel_rfl
@[simp] theorem sz_157 : sz Tryz.prog 157 = some 1 := by kernel_rfl
@[simp] theorem bytes_157 : bytes Tryz.prog 157 = some 8 := by kernel_rfl
@[simp] theorem szz_157 : szz Tryz.prog 157 = some 1 := by kernel_rfl
@[simp] theorem isAg_157 : isAg Tryz.prog 157 = some false := by kernel_rfl
@[simp] theorem zeroC_157 : zeroC Tryz.prog 157 = some [.v .any] := by kernel_rfl
@[simp] theorem sz_158 : sz Tryz.prog 158 = some 1 := by kernel_rfl
@[simp] theorem bytes_158 : bytes Tryz.prog 158 = some 8 := by kernel_rfl
@[simp] theorem szz_158 : szz Tryz.prog 158 = some 1 := by kernel_rfl
@[simp] theorem isAg_158 : isAg Tryz.prog 158 = some false := by kernel_rfl
@[simp] theorem zeroC_158 : zeroC Tryz.prog 158 = some [.v .any] := by kernel_rfl
@[simp] theorem sz_159 : sz Tryz.prog 159 = some 1 := by kernel_rfl
@[simp] theorem bytes_159 : bytes Tryz.prog 159 = some 8 := by kernel_rfl
@[simp] theorem szz_159 : szz Tryz.prog 159 = some 1 := by kernel_rfl
@[simp] theorem isAg_159 : isAg Tryz.prog 159 = some false := by kernel_rfl
@[simp] theorem zeroC_159 : zeroC Tryz.prog 159 = some [.v .any] := by kernel_rfl
@[simp] theorem sz_160 : sz Tryz.prog 160 = some 1 := by kernel_rfl
@[simp] theorem bytes_160 : bytes Tryz.prog 160 = some 8 := by kernel_rfl
@[simp] theorem szz_160 : szz Tryz.prog 160 = some 1 := by kernel_rfl
@[simp] theorem isAg_160 : isAg Tryz.prog 160 = some false := by kernel_rfl
@[simp] theorem zeroC_160 : zeroC Tryz.prog 160 = some [.v .any] := by kernel_rfl
@[simp] theorem sz_161 : sz Tryz.prog 161 = some 2 := by kernel_rfl
@[simp] theorem bytes_161 : bytes Tryz.prog 161 = some 16 := by kernel_rfl
@[simp] theorem szz_161 : szz Tryz.prog 161 = some 2 := by kernel_rfl
@[simp] theorem isAg_161 : isAg Tryz.prog 161 = some true := by kernel_rfl
@[simp] theorem zeroC_161 : zeroC Tryz.prog 161 = some [.v (.int .i64 0), .v (.int .i64 0)] := by kernel_rfl
@[simp] theorem fieldsOk_161 : fieldsOk Tryz.prog 161 = true := by kernel_rfl
@[simp] theorem eqKinds_161 : eqKinds Tryz.prog 161 = some [1, 1] := by kernel_rfl
@[simp] theorem fo_161_0 : fo Tryz.prog 161 0 = some 0 := by kernel_rfl
@[simp] theorem fld_161_0 : fld Tryz.prog 161 0 = some (3, 0) := by kernel_rfl
@[simp] theorem fsz_161_0 : fsz Tryz.prog 161 0 = some 1 := by kernel_rfl
@[simp] theorem fo_161_1 : fo Tryz.prog 161 1 = some 1 := by kernel_rfl
@[simp] theorem fld_161_1 : fld Tryz.prog 161 1 = some (3, 1) := by kernel_rfl
@[simp] theorem fsz_161_1 : fsz Tryz.prog 161 1 = some 1 := by kernel_rfl
@[simp] theorem sz_163 : sz Tryz.prog 163 = some 1 := by kernel_rfl
@[simp] theorem bytes_163 : bytes Tryz.prog 163 = some 8 := by kernel_rfl
@[simp] theorem szz_163 : szz Tryz.prog 163 = some 1 := by kernel_rfl
@[simp] theorem isAg_163 : isAg Tryz.prog 163 = some false := by kernel_rfl
@[simp] theorem zeroC_163 : zeroC Tryz.prog 163 = some [.v .any] := by kernel_rfl
@[simp] theorem sz_164 : sz Tryz.prog 164 = some 1 := by kernel_rfl
@[simp] theorem bytes_164 : bytes Tryz.prog 164 = some 8 := by kernel_rfl
@[simp] theorem szz_164 : szz Tryz.prog 164 = some 1 := by kernel_rfl
@[simp] theorem isAg_164 : isAg Tryz.prog 164 = some false := by kernel_rfl
@[simp] theorem zeroC_164 : zeroC Tryz.prog 164 = some [.v .any] := by kernel_rfl
@[simp] theorem sz_165 : sz Tryz.prog 165 = some 1 := by kernel_rfl
@[simp] theorem bytes_165 : bytes Tryz.prog 165 = some 24 := by kernel_rfl
@[simp] theorem szz_165 : szz Tryz.prog 165 = some 1 := by kernel_rfl
@[simp] theorem isAg_165 : isAg Tryz.prog 165 = some false := by kernel_rfl
@[simp] theorem elT_165 : elT Tryz.prog 165 = some 3 := by kernel_rfl
@[simp] theorem isStr_165 : isStr Tryz.prog 165 = some false := by kernel_rfl
@[simp] theorem zeroC_165 : zeroC Tryz.prog 165 = some [.nil] := by kernel_rfl
@[simp] theorem sz_167 : sz Tryz.prog 167 = some 1 := by kernel_rfl
@[simp] theorem bytes_167 : bytes Tryz.prog 167 = some 8 := by kernel_rfl
@[simp] theorem szz_167 : szz Tryz.prog 167 = some 1 := by kernel_rfl
@[simp] theorem isAg_167 : isAg Tryz.prog 167 = some false := by kernel_rfl
@[simp] theorem intK_167 : intK Tryz.prog 167 = some .u64 := by kernel_rfl
@[simp] theorem zeroC_167 : zeroC Tryz.prog 167 = some [.v (.int .u64 0)] := by kernel_rfl
@[simp] theorem sz_168 : sz Tryz.prog 168 = some 1 := by kernel_rfl
@[simp] theorem bytes_168 : bytes Tryz.prog 168 = some 8 := by kernel_rfl
@[simp] theorem szz_168 : szz Tryz.prog 168 = some 1 := by kernel_rfl
@[simp] theorem isAg_168 : isAg Tryz.prog 168 = some false := by kernel_rfl
@[simp] theorem zeroC_168 : zeroC Tryz.prog 168 = some [.v .any] := by kernel_rfl
@[simp] theorem sz_169 : sz Tryz.prog 169 = some 1 := by kernel_rfl
@[simp] theorem bytes_169 : bytes Tryz.prog 169 = some 8 := by kernel_rfl
@[simp] theorem szz_169 : szz Tryz.prog 169 = some 1 := by kernel_rfl
@[simp] theorem isAg_169 : isAg Tryz.prog 169 = some false := by kernel_rfl
@[simp] theorem zeroC_169 : zeroC Tryz.prog 169 = some [.v .any] := by kernel_rfl
@[simp] theorem sz_171 : sz Tryz.prog 171 = some 1 := by kernel_rfl
@[simp] theorem bytes_171 : bytes Tryz.prog 171 = some 8 := by kernel_rfl
@[simp] theorem szz_171 : szz Tryz.prog 171 = some 1 := by kernel_rfl
@[simp] theorem isAg_171 : isAg Tryz.prog 171 = some false := by kernel_rfl
@[simp] theorem zeroC_171 : zeroC Tryz.prog 171 = some [.v .any] := by kernel_rfl
@[simp] theorem sz_173 : sz Tryz.prog 173 = some 1 := by kernel_rfl
@[simp] theorem bytes_173 : bytes Tryz.prog 173 = some 8 := by kernel_rfl
@[simp] theorem szz_173 : szz Tryz.prog 173 = some 1 := by kernel_rfl
@[simp] theorem isAg_173 : isAg Tryz.prog 173 = some false := by kernel_rfl
@[simp] theorem zeroC_173 : zeroC Tryz.prog 173 = some [.v .any] := by kernel_rfl
@[simp] theorem sz_174 : sz Tryz.prog 174 = some 1 := by kernel_rfl
@[simp] theorem bytes_174 : bytes Tryz.prog 174 = some 8 := by kernel_rfl
@[simp] theorem szz_174 : szz Tryz.prog 174 = some 1 := by kernel_rfl
@[simp] theorem isAg_174 : isAg Tryz.prog 174 = some false := by kernel_rfl
@[simp] theorem zeroC_174 : zeroC Tryz.prog 174 = some [.v .any] := by kernel_rfl
@[simp] theorem sz_175 : sz Tryz.prog 175 = some 1 := by kernel_rfl
@[simp] theorem bytes_175 : bytes Tryz.prog 175 = some 8 := by kernel_rfl
@[simp] theorem szz_175 : szz Tryz.prog 175 = some 1 := by kernel_rfl
@[simp] theorem isAg_175 : isAg Tryz.prog 175 = some false := by kernel_rfl
@[simp] theorem zeroC_175 : zeroC Tryz.prog 175 = some [.v .any] := by kernel_rfl
@[simp] theorem sz_176 : sz Tryz.prog 176 = some 1 := by kernel_rfl
@[simp] theorem bytes_176 : bytes Tryz.prog 176 = some 8 := by kernel_rfl
@[simp] theorem szz_176 : szz Tryz.prog 176 = some 1 := by kernel_rfl
@[simp] theorem isAg_176 : isAg Tryz.prog 176 = some false := by kernel_rfl
@[simp] theorem zeroC_176 : zeroC Tryz.prog 176 = some [.v .any] := by kernel_rfl
@[simp] theorem sz_177 : sz Tryz.prog 177 = some 1 := by kernel_rfl
@[simp] theorem bytes_177 : bytes Tryz.prog 177 = some 8 := by kernel_rfl
@[simp] theorem szz_177 : szz Tryz.prog 177 = some 1 := by kernel_rfl
@[simp] theorem isAg_177 : isAg Tryz.prog 177 = some false := by kernel_rfl
@[simp] theorem zeroC_177 : zeroC Tryz.prog 177 = some [.v .any] := by kernel_rfl
@[simp] theorem sz_178 : sz Tryz.prog 178 = some 1 := by kernel_rfl
@[simp] theorem bytes_178 : bytes Tryz.prog 178 = some 8 := by kernel_rfl
@[simp] theorem szz_178 : szz Tryz.prog 178 = some 1 := by kernel_rfl
@[simp] theorem isAg_178 : isAg Tryz.prog 178 = some false := by kernel_rfl
@[simp] theorem zeroC_178 : zeroC Tryz.prog 178 = some [.v .any] := by kernel_rfl
@[simp] theorem sz_179 : sz Tryz.prog 179 = some 1 := by kernel_rfl
@[simp] theorem bytes_179 : bytes Tryz.prog 179 = some 24 := by kernel_rfl
@[simp] theorem szz_179 : szz Tryz.prog 179 = some 1 := by kernel_rfl
@[simp] theorem isAg_179 : isAg Tryz.prog 179 = some false := by kernel_rfl
@[simp] theorem elT_179 : elT Tryz.prog 179 = some 4 := by kernel_rfl
@[simp] theorem isStr_179 : isStr Tryz.prog 179 = some false := by kernel_rfl
@[simp] theorem zeroC_179 : zeroC Tryz.prog 179 = some [.nil] := by kernel_rfl
@[simp] theorem sz_180 : sz Tryz.prog 180 = some 1 := by kernel_rfl
@[simp] theorem bytes_180 : bytes Tryz.prog 180 = some 8 := by kernel_rfl
@[simp] theorem szz_180 : szz Tryz.prog 180 = some 1 := by kernel_rfl
@[simp] theorem isAg_180 : isAg Tryz.prog 180 = some false := by kernel_rfl
@[simp] theorem zeroC_180 : zeroC Tryz.prog 180 = some [.v .any] := by kernel_rfl
@[simp] theorem sz_181 : sz Tryz.prog 181 = some 1 := by kernel_rfl
@[simp] theorem bytes_181 : bytes Tryz.prog 181 = some 8 := by kernel_rfl
@[simp] theorem szz_181 : szz Tryz.prog 181 = some 1 := by kernel_rfl
@[simp] theorem isAg_181 : isAg Tryz.prog 181 = some false := by kernel_rfl
@[simp] theorem zeroC_181 : zeroC Tryz.prog 181 = some [.v .any] := by kernel_rfl
@[simp] theorem sz_182 : sz Tryz.prog 182 = some 1 := by kernel_rfl
@[simp] theorem bytes_182 : bytes Tryz.prog 182 = some 8 := by kernel_rfl
@[simp] theorem szz_182 : szz Tryz.prog 182 = some 1 := by kernel_rfl
@[simp] theorem isAg_182 : isAg Tryz.prog 182 = some false := by kernel_rfl
@[simp] theorem zeroC_182 : zeroC Tryz.prog 182 = some [.v .any] := by kernel_rfl
@[simp] theorem sz_184 : sz Tryz.prog 184 = some 1 := by kernel_rfl
@[simp] theorem bytes_184 : bytes Tryz.prog 184 = some 4 := by kernel_rfl
@[simp] theorem szz_184 : szz Tryz.prog 184 = some 1 := by kernel_rfl
@[simp] theorem isAg_184 : isAg Tryz.prog 184 = some false := by kernel_rfl
@[simp] theorem intK_184 : intK Tryz.prog 184 = some .u32 := by kernel_rfl
@[simp] theorem zeroC_184 : zeroC Tryz.prog 184 = some [.v (.int .u32 0)] := by kernel_rfl
@[simp] theorem sz_187 : sz Tryz.prog 187 = some 1 := by kernel_rfl
@[simp] theorem bytes_187 : bytes Tryz.prog 187 = some 8 := by kernel_rfl
@[simp] theorem szz_187 : szz Tryz.prog 187 = some 1 := by kernel_rfl
@[simp] theorem isAg_187 : isAg Tryz.prog 187 = some false := by kernel_rfl
@[simp] theorem zeroC_187 : zeroC Tryz.prog 187 = some [.v .any] := by kernel_rfl
@[simp] theorem sz_188 : sz Tryz.prog 188 = some 1 := by kernel_rfl
@[simp] theorem bytes_188 : bytes Tryz.prog 188 = some 8 := by kernel_rfl
@[simp] theorem szz_188 : szz Tryz.prog 188 = some 1 := by kernel_rfl
@[simp] theorem isAg_188 : isAg Tryz.prog 188 = some false := by kernel_rfl
@[simp] theorem zeroC_188 : zeroC Tryz.prog 188 = some [.v .any] := by kernel_rfl
@[simp] theorem sz_189 : sz Tryz.prog 189 = some 1 := by kernel_rfl
@[simp] theorem bytes_189 : bytes Tryz.prog 189 = some 8 := by kernel_rfl
@[simp] theorem szz_189 : szz Tryz.prog 189 = some 1 := by kernel_rfl
@[simp] theorem isAg_189 : isAg Tryz.prog 189 = some false := by kernel_rfl
@[simp] theorem intK_189 : intK Tryz.prog 189 = some .i64 := by kernel_rfl
@[simp] theorem zeroC_189 : zeroC Tryz.prog 189 = some [.v (.int .i64 0)] := by kernel_rfl
@[simp] theorem sz_191 : sz Tryz.prog 191 = some 1 := by kernel_rfl
@[simp] theorem bytes_191 : bytes Tryz.prog 191 = some 8 := by kernel_rfl
@[simp] theorem szz_191 : szz Tryz.prog 191 = some 1 := by kernel_rfl
@[simp] theorem isAg_191 : isAg Tryz.prog 191 = some false := by kernel_rfl
@[simp] theorem zeroC_191 : zeroC Tryz.prog 191 = some [.v .any] := by kernel_rfl
@[simp] theorem sz_192 : sz Tryz.prog 192 = some 1 := by kernel_rfl
@[simp] theorem bytes_192 : bytes Tryz.prog 192 = some 8 := by kernel_rfl
@[simp] theorem szz_192 : szz Tryz.prog 192 = some 1 := by kernel_rfl
@[simp] theorem isAg_192 : isAg Tryz.prog 192 = some false := by kernel_rfl
@[simp] theorem zeroC_192 : zeroC Tryz.prog 192 = some [.v .any] := by kernel_rfl
@[simp] theorem sz_193 : sz Tryz.prog 193 = some 1 := by kernel_rfl
@[simp] theorem bytes_193 : bytes Tryz.prog 193 = some 8 := by kernel_rfl
@[simp] theorem szz_193 : szz Tryz.prog 193 = some 1 := by kernel_rfl
@[simp] theorem isAg_193 : isAg Tryz.prog 193 = some false := by kernel_rfl
@[simp] theorem zeroC_193 : zeroC Tryz.prog 193 = some [.v .any] := by kernel_rfl
@[simp] theorem sz_194 : sz Tryz.prog 194 = some 1 := by kernel_rfl
@[simp] theorem bytes_194 : bytes Tryz.prog 194 = some 8 := by kernel_rfl
@[simp] theorem szz_194 : szz Tryz.prog 194 = some 1 := by kernel_rfl
@[simp] theorem isAg_194 : isAg Tryz.prog 194 = some false := by kernel_rfl
@[simp] theorem zeroC_194 : zeroC Tryz.prog 194 = some [.v .any] := by kernel_rfl
@[simp] theorem sz_195 : sz Tryz.prog 195 = some 1 := by kernel_rfl
@[simp] theorem bytes_195 : bytes Tryz.prog 195 = some 8 := by kernel_rfl
@[simp] theorem szz_195 : szz Tryz.prog 195 = some 1 := by kernel_rfl
@[simp] theorem isAg_195 : isAg Tryz.prog 195 = some false := by kernel_rfl
@[simp] theorem zeroC_195 : zeroC Tryz.prog 195 = some [.v .any] := by kernel_rfl
@[simp] theorem sz_196 : sz Tryz.prog 196 = some 1 := by kernel_rfl
@[simp] theorem bytes_196 : bytes Tryz.prog 196 = some 8 := by kernel_rfl
@[simp] theorem szz_196 : szz Tryz.prog 196 = some 1 := by kernel_rfl
@[simp] theorem isAg_196 : isAg Tryz.prog 196 = some false := by kernel_rfl
@[simp] theorem zeroC_196 : zeroC Tryz.prog 196 = some [.v .any] := by kernel_rfl
@[simp] theorem sz_198 : sz Tryz.prog 198 = some 1 := by kernel_rfl
@[simp] theorem bytes_198 : bytes Tryz.prog 198 = some 8 := by kernel_rfl
@[simp] theorem szz_198 : szz Tryz.prog 198 = some 1 := by kernel_rfl
@[simp] theorem isAg_198 : isAg Tryz.prog 198 = some false := by kernel_rfl
@[simp] theorem zeroC_198 : zeroC Tryz.prog 198 = some [.v .any] := by kernel_rfl
@[simp] theorem sz_200 : sz Tryz.prog 200 = some 1 := by kernel_rfl
@[simp] theorem bytes_200 : bytes Tryz.prog 200 = some 8 := by kernel_rfl
@[simp] theorem szz_200 : szz Tryz.prog 200 = some 1 := by kernel_rfl
@[simp] theorem isAg_200 : isAg Tryz.prog 200 = some false := by kernel_rfl
@[simp] theorem zeroC_200 : zeroC Tryz.prog 200 = some [.v .any] := by kernel_rfl
@[simp] theorem sz_201 : sz Tryz.prog 201 = some 1 := by kernel_rfl
@[simp] theorem bytes_201 : bytes Tryz.prog 201 = some 8 := by kernel_rfl
@[simp] theorem szz_201 : szz Tryz.prog 201 = some 1 := by kernel_rfl
@[simp] theorem isAg_201 : isAg Tryz.prog 201 = some false := by kernel_rfl
@[simp] theorem zeroC_201 : zeroC Tryz.prog 201 = some [.v .any] := by kernel_rfl
@[simp] theorem sz_202 : sz Tryz.prog 202 = some 3 := by kernel_rfl
@[simp] theorem bytes_202 : bytes Tryz.prog 202 = some 48 := by kernel_rfl
@[simp] theorem szz_202 : szz Tryz.prog 202 = some 3 := by kernel_rfl
@[simp] theorem isAg_202 : isAg Tryz.prog 202 = some true := by kernel_rfl
@[simp] theorem zeroC_202 : zeroC Tryz.prog 202 = some [.v (.str []), .v (.str []), .v .any] := by kernel_rfl
@[simp] theorem fieldsOk_202 : fieldsOk Tryz.prog 202 = true := by kernel_rfl
@[simp] theorem fo_202_0 : fo Tryz.prog 202 0 = some 0 := by kernel_rfl
@[simp] theorem fld_202_0 : fld Tryz.prog 202 0 = some (9, 0) := by kernel_rfl
@[simp] theorem fsz_202_0 : fsz Tryz.prog 202 0 = some 1 := by kernel_rfl
@[simp] theorem fo_202_1 : fo Tryz.prog 202 1 = some 1 := by kernel_rfl
@[simp] theorem fld_202_1 : fld Tryz.prog 202 1 = some (9, 1) := by kernel_rfl
@[simp] theorem fsz_202_1 : fsz Tryz.prog 202 1 = some 1 := by kernel_rfl
@[simp] theorem fo_202_2 : fo Tryz.prog 202 2 = some 2 := by kernel_rfl
@[simp] theorem fld_202_2 : fld Tryz.prog 202 2 = some (134, 2) := by kernel_rfl
@[simp] theorem fsz_202_2 : fsz Tryz.prog 202 2 = some 1 := by kernel_rfl
@[simp] theorem sz_203 : sz Tryz.prog 203 = some 3 := by kernel_rfl
@[simp] theorem bytes_203 : bytes Tryz.prog 203 = some 48 := by kernel_rfl
@[simp] theorem szz_203 : szz Tryz.prog 203 = some 3 := by kernel_rfl
@[simp] theorem isAg_203 : isAg Tryz.prog 203 = some true := by kernel_rfl
@[simp] theorem zeroC_203 : zeroC Tryz.prog 203 = some [.v (.str []), .v (.str []), .v .any] := by kernel_rfl
@[simp] theorem fieldsOk_203 : fieldsOk Tryz.prog 203 = true := by kernel_rfl
@[simp] theorem fo_203_0 : fo Tryz.prog 203 0 = some 0 := by kernel_rfl
@[simp] theorem fld_203_0 : fld Tryz.prog 203 0 = some (9, 0) := by kernel_rfl
@[simp] theorem fsz_203_0 : fsz Tryz.prog 203 0 = some 1 := by kernel_rfl
@[simp] theorem fo_203_1 : fo Tryz.prog 203 1 = some 1 := by kernel_rfl
@[simp] theorem fld_203_1 : fld Tryz.prog 203 1 = some (9, 1) := by kernel_rfl
@[simp] theorem fsz_203_1 : fsz Tryz.prog 203 1 = some 1 := by kernel_rfl
@[simp] theorem fo_203_2 : fo Tryz.prog 203 2 = some 2 := by kernel_rfl
@[simp] theorem fld_203_2 : fld Tryz.prog 203 2 = some (134, 2) := by kernel_rfl
@[simp] theorem fsz_203_2 : fsz Tryz.prog 203 2 = some 1 := by kernel_rfl
@[simp] theorem sz_204 : sz Tryz.prog 204 = some 1 := by kernel_rfl
@[simp] theorem bytes_204 : bytes Tryz.prog 204 = some 8 := by kernel_rfl
@[simp] theorem szz_204 : szz Tryz.prog 204 = some 1 := by kernel_rfl
@[simp] theorem isAg_204 : isAg Tryz.prog 204 = some false := by kernel_rfl
@[simp] theorem zeroC_204 : zeroC Tryz.prog 204 = some [.v .any] := by kernel_rfl
@[simp] theorem sz_208 : sz Tryz.prog 208 = some 2 := by kernel_rfl
@[simp] theorem bytes_208 : bytes Tryz.prog 208 = some 2 := by kernel_rfl
@[simp] theorem szz_208 : szz Tryz.prog 208 = some 2 := by kernel_rfl
@[simp] theorem isAg_208 : isAg Tryz.prog 208 = some true := by kernel_rfl
@[simp] theorem zeroC_208 : zeroC Tryz.prog 208 = some [.v (.int .u8 0), .v (.int .u8 0)] := by kernel_rfl
@[simp] theorem fieldsOk_208 : fieldsOk Tryz.prog 208 = true := by kernel_rfl
@[simp] theorem eqKinds_208 : eqKinds Tryz.prog 208 = some [1, 1] := by kernel_rfl
@[simp] theorem fo_208_0 : fo Tryz.prog 208 0 = some 0 := by kernel_rfl
@[simp] theorem fld_208_0 : fld Tryz.prog 208 0 = some (5, 0) := by kernel_rfl
@[simp] theorem fsz_208_0 : fsz Tryz.prog 208 0 = some 1 := by kernel_rfl
@[simp] theorem fo_208_1 : fo Tryz.prog 208 1 = some 1 := by kernel_rfl
@[simp] theorem fld_208_1 : fld Tryz.prog 208 1 = some (5, 1) := by kernel_rfl
@[simp] theorem fsz_208_1 : fsz Tryz.prog 208 1 = some 1 := by kernel_rfl
@[simp] theorem sz_209 : sz Tryz.prog 209 = some 2 := by kernel_rfl
@[simp] theorem bytes_209 : bytes Tryz.prog 209 = some 2 := by kernel_rfl
@[simp] theorem szz_209 : szz Tryz.prog 209 = some 2 := by kernel_rfl
@[simp] theorem isAg_209 : isAg Tryz.prog 209 = some true := by kernel_rfl
@[simp] theorem zeroC_209 : zeroC Tryz.prog 209 = some [.v (.int .u8 0), .v (.int .u8 0)] := by kernel_rfl
@[simp] theorem fieldsOk_209 : fieldsOk Tryz.prog 209 = true := by kernel_rfl
@[simp] theorem eqKinds_209 : eqKinds Tryz.prog 209 = some [1, 1] := by kernel_rfl
@[simp] theorem fo_209_0 : fo Tryz.prog 209 0 = some 0 := by kernel_rfl
@[simp] theorem fld_209_0 : fld Tryz.prog 209 0 = some (5, 0) := by kernel_rfl
@[simp] theorem fsz_209_0 : fsz Tryz.prog 209 0 = some 1 := by kernel_rfl
@[simp] theorem fo_209_1 : fo Tryz.prog 209 1 = some 1 := by kernel_rfl
@[simp] theorem fld_209_1 : fld Tryz.prog 209 1 = some (5, 1) := by kernel_rfl
@[simp] theorem fsz_209_1 : fsz Tryz.prog 209 1 = some 1 := by kernel_rfl
@[simp] theorem sz_211 : sz Tryz.prog 211 = some 1 := by kernel_rfl
@[simp] theorem bytes_211 : bytes Tryz.prog 211 = some 8 := by kernel_rfl
@[simp] theorem szz_211 : szz Tryz.prog 211 = some 1 := by kernel_rfl
@[simp] theorem isAg_211 : isAg Tryz.prog 211 = some false := by kernel_rfl
@[simp] theorem zeroC_211 : zeroC Tryz.prog 211 = some [.v .any] := by kernel_rfl
@[simp] theorem sz_212 : sz Tryz.prog 212 = some 1 := by kernel_rfl
@[simp] theorem bytes_212 : bytes Tryz.prog 212 = some 8 := by kernel_rfl
@[simp] theorem szz_212 : szz Tryz.prog 212 = some 1 := by kernel_rfl
@[simp] theorem isAg_212 : isAg Tryz.prog 212 = some false := by kernel_rfl
@[simp] theorem zeroC_212 : zeroC Tryz.prog 212 = some [.v .any] := by kernel_rfl
@[simp] theorem sz_213 : sz Tryz.prog 213 = some 1 := by kernel_rfl
@[simp] theorem bytes_213 : bytes Tryz.prog 213 = some 8 := by kernel_rfl
@[simp] theorem szz_213 : szz Tryz.prog 213 = some 1 := by kernel_rfl
@[simp] theorem isAg_213 : isAg Tryz.prog 213 = some false := by kernel_rfl
@[simp] theorem zeroC_213 : zeroC Tryz.prog 213 = some [.v .any] := by kernel_rfl
@[simp] theorem sz_214 : sz Tryz.prog 214 = some 1 := by kernel_rfl
@[simp] theorem bytes_214 : bytes Tryz.prog 214 = some 16 := by kernel_rfl
@[simp] theorem szz_214 : szz Tryz.prog 214 = some 1 := by kernel_rfl
@[simp] theorem isAg_214 : isAg Tryz.prog 214 = some true := by kernel_rfl
@[simp] theorem zeroC_214 : zeroC Tryz.prog 214 = some [.v (.str [])] := by kernel_rfl
@[simp] theorem fieldsOk_214 : fieldsOk Tryz.prog 214 = true := by kernel_rfl
@[simp] theorem eqKinds_214 : eqKinds Tryz.prog 214 = some [2] := by kernel_rfl
@[simp] theorem fo_214_0 : fo Tryz.prog 214 0 = some 0 := by kernel_rfl
@[simp] theorem fld_214_0 : fld Tryz.prog 214 0 = some (9, 0) := by kernel_rfl
@[simp] theorem fsz_214_0 : fsz Tryz.prog 214 0 = some 1 := by kernel_rfl
@[simp] theorem sz_215 : sz Tryz.prog 215 = some 1 := by kernel_rfl
@[simp] theorem bytes_215 : bytes Tryz.prog 215 = some 16 := by kernel_rfl
@[simp] theorem szz_215 : szz Tryz.prog 215 = some 1 := by kernel_rfl
@[simp] theorem isAg_215 : isAg Tryz.prog 215 = some true := by kernel_rfl
@[simp] theorem zeroC_215 : zeroC Tryz.prog 215 = some [.v (.str [])] := by kernel_rfl
@[simp] theorem fieldsOk_215 : fieldsOk Tryz.prog 215 = true := by kernel_rfl
@[simp] theorem eqKinds_215 : eqKinds Tryz.prog 215 = some [2] := by kernel_rfl
@[simp] theorem fo_215_0 : fo Tryz.prog 215 0 = some 0 := by kernel_rfl
@[simp] theorem fld_215_0 : fld Tryz.prog 215 0 = some (9, 0) := by kernel_rfl
@[simp] theorem fsz_215_0 : fsz Tryz.prog 215 0 = some 1 := by kernel_rfl
@[simp] theorem sz_221 : sz Tryz.prog 221 = some 1 := by kernel_rfl
@[simp] theorem bytes_221 : bytes Tryz.prog 221 = some 8 := by kernel_rfl
@[simp] theorem szz_221 : szz Tryz.prog 221 = some 1 := by kernel_rfl
@[simp] theorem isAg_221 : isAg Tryz.prog 221 = some false := by kernel_rfl
@[simp] theorem zeroC_221 : zeroC Tryz.prog 221 = some [.v .any] := by kernel_rfl
@[simp] theorem sz_224 : sz Tryz.prog 224 = some 1 := by kernel_rfl
@[simp] theorem bytes_224 : bytes Tryz.prog 224 = some 8 := by kernel_rfl
@[simp] theorem szz_224 : szz Tryz.prog 224 = some 1 := by kernel_rfl
@[simp] theorem isAg_224 : isAg Tryz.prog 224 = some false := by kernel_rfl
@[simp] theorem zeroC_224 : zeroC Tryz.prog 224 = some [.v .any] := by kernel_rfl
end TL

set_option linter.unusedSimpArgs false
set_option linter.unusedVariables false
set_option maxRecDepth 100000
namespace TL
open Go Go.Proofs
theorem peopleOk_fn (p : Int) : FnZ Tryz.prog 91 [.int .i64 p] (.bool (decide (1 ≤ p) && decide (p ≤ 4))) := by
  refine FnZ_of (rs := [.tmp 2]) false Tryz.func91 rfl rfl rfl rfl (Nat.le_of_ble_eq_true rfl) ?_
  simp -dsimp
  refine iteP_intro (fun h => ?_) (fun h => ?_) <;> simp -dsimp [h]
theorem w64 {x : Int} (h1 : -9223372036854775808 ≤ x) (h2 : x ≤ 9223372036854775807) : IntKind.wrap .i64 x = x := by rw [IntKind.wrap_i64]; omega
def codeV (bs : List UInt8) : V := .sl (bs.map fun b => .int .u8 b.toNat)
theorem codeZ (bs : List UInt8) : allZ 1 (bs.map fun b => V.int .u8 b.toNat) := by
  intro x hx; obtain ⟨b, _, rfl⟩ := List.mem_map.1 hx; simp [V.cells, V.cell]
/-- What the reader says. -/
def rdNum (bs : List UInt8) (p : Nat) (k : Int) : Int :=
  if k < 1 ∨ bs.length = 0 then 0
  else if p < bs.length then ((bs.getD p 0).toNat : Int) % k
  else 0
theorem tmod_range (a k : Int) (h0 : 0 ≤ a) (hk : 1 ≤ k) : 0 ≤ a.tmod k ∧ (1 ≤ k → a.tmod k < k) := by
  rw [Int.tmod_eq_emod_of_nonneg h0]
  exact ⟨Int.emod_nonneg _ (by omega), fun _ => Int.emod_lt_of_pos _ (by omega)⟩
theorem tmod_nat (a b : Nat) (hb : 0 < b) : ∃ q : Nat, q < b ∧ (a : Int).tmod b = q := ⟨a % b, Nat.mod_lt _ hb, by rw [Int.tmod_eq_emod_of_nonneg (by omega)]; rfl⟩
theorem tdiv_nat (a b : Nat) : ∃ q : Nat, q ≤ a ∧ (a : Int).tdiv b = q := ⟨a / b, Nat.div_le_self _ _, by rw [Int.tdiv_eq_ediv_of_nonneg (by omega)]; rfl⟩
theorem xor64 (a b k : Int) (ha : 0 ≤ a) (ha' : a < 4611686018427387904) (hb : 0 ≤ b) (hb' : b < 4611686018427387904) (hk : 1 ≤ k) :
    0 ≤ (IntKind.wrap .i64 (((a % 2 ^ IntKind.i64.bits).toNat ^^^ (b % 2 ^ IntKind.i64.bits).toNat : Nat) : Int)).tmod k ∧ (1 ≤ k → (IntKind.wrap .i64 (((a % 2 ^ IntKind.i64.bits).toNat ^^^ (b % 2 ^ IntKind.i64.bits).toNat : Nat) : Int)).tmod k < k) := by
  obtain ⟨a, rfl⟩ := Int.eq_ofNat_of_zero_le ha
  obtain ⟨b, rfl⟩ := Int.eq_ofNat_of_zero_le hb
  have h1 : a < 2 ^ 62 := by omega
  have h2 : b < 2 ^ 62 := by omega
  have h3 := Nat.xor_lt_two_pow h1 h2
  have e1 : ((a : Int) % 2 ^ IntKind.i64.bits).toNat = a := by simp only [IntKind.bits]; omega
  have e2 : ((b : Int) % 2 ^ IntKind.i64.bits).toNat = b := by simp only [IntKind.bits]; omega
  rw [e1, e2, w64 (by omega) (by omega)]
  exact tmod_range _ _ (by omega) hk
theorem pick_facts (p c1 c2 q3 : Nat) (hp : p < 1000000000) (h1 : c1 < 256) (h2 : c2 < 256) (h3 : q3 ≤ p) :
    (IntKind.wrap .i64 ((p : Int) * 7) = p * 7) ∧
    (IntKind.wrap .i64 ((p : Int) * 7 + 3) = p * 7 + 3) ∧
    (IntKind.wrap .i64 (c1 : Int) = c1) ∧
    (IntKind.wrap .i64 ((c1 : Int) * 131) = c1 * 131) ∧
    (IntKind.wrap .i64 (c2 : Int) = c2) ∧
    (IntKind.wrap .i64 ((c2 : Int) * 1117) = c2 * 1117) ∧
    (IntKind.wrap .i64 ((c1 : Int) * 131 + c2 * 1117) = c1 * 131 + c2 * 1117) ∧
    (IntKind.wrap .i64 ((p : Int) * 29) = p * 29) ∧
    (IntKind.wrap .i64 ((c1 : Int) * 131 + c2 * 1117 + p * 29) = c1 * 131 + c2 * 1117 + p * 29) ∧
    (IntKind.wrap .i64 (q3 : Int) = q3) ∧
    (IntKind.wrap .i64 ((q3 : Int) * 53) = q3 * 53) ∧
    (IntKind.wrap .i64 ((c1 : Int) * 131 + c2 * 1117 + p * 29 + q3 * 53) = c1 * 131 + c2 * 1117 + p * 29 + q3 * 53) := by
  refine ⟨w64 ?_ ?_, w64 ?_ ?_, w64 ?_ ?_, w64 ?_ ?_, w64 ?_ ?_, w64 ?_ ?_, w64 ?_ ?_, w64 ?_ ?_, w64 ?_ ?_, w64 ?_ ?_, w64 ?_ ?_, w64 ?_ ?_⟩ <;> omega
end TL

/- Data of the program; the reader of codes. -/
set_option linter.unusedSimpArgs false
set_option linter.unusedVariables false
set_option maxRecDepth 100000
set_option maxHeartbeats 4000000
namespace TL
open Go Go.Proofs
structure Mark where
  kind : Int
  num : Int
  deriving DecidableEq
structure Claim where
  who : Int
  says : List Mark
  deriving DecidableEq
structure Place where
  people : Int
  story : List Claim
  deriving DecidableEq
/-- Numbers of the machine. -/
def fit (x : Int) : Prop := -9223372036854775808 ≤ x ∧ x < 9223372036854775808
def Mark.fit (m : Mark) : Prop := TL.fit m.kind ∧ TL.fit m.num
def fits (l : List Mark) : Prop := ∀ x ∈ l, x.fit
def Claim.fit (c : Claim) : Prop := TL.fit c.who ∧ fits c.says
def Place.fit (p : Place) : Prop := TL.fit p.people ∧ ∀ c ∈ p.story, c.fit
@[simp] theorem fits_nil : fits [] := by simp [fits]
@[simp] theorem fits_cons (x : Mark) (l : List Mark) : fits (x :: l) ↔ x.fit ∧ fits l := by simp [fits]
@[simp] theorem fits_append (a b : List Mark) : fits (a ++ b) ↔ fits a ∧ fits b := by simp [fits, or_imp, forall_and]
theorem fit_mk {k a : Int} (hk : 0 ≤ k) (hk' : k < 1000) (ha : 0 ≤ a) (ha' : a < 1000) : Mark.fit ⟨k, a⟩ := by
  refine ⟨⟨?_, ?_⟩, ⟨?_, ?_⟩⟩ <;> simp only <;> omega
def Mark.v (m : Mark) : V := .agg [.int .i64 m.kind, .int .i64 m.num]
@[simp] theorem mark_cells (m : Mark) : m.v.cells = [.int .i64 m.kind, .int .i64 m.num] := rfl
theorem drop_cons {α : Type} {l : List α} {i : Nat} (h : i < l.length) : l.drop i = l[i] :: l.drop (i + 1) := List.drop_eq_getElem_cons h
def marksV (l : List Mark) : V := .sl (l.map Mark.v)
def Claim.v (c : Claim) : V := .agg [.int .i64 c.who, marksV c.says]
def storyV (l : List Claim) : V := .sl (l.map Claim.v)
def Place.v (p : Place) : V := .agg [.int .i64 p.people, storyV p.story]
@[simp] theorem updM_idem (m : Mem) (d : Nat) (x y : Option Blk) : updM (updM m d x) d y = updM m d y := by
  funext t; simp only [updM_lit]; split <;> rfl
theorem updM_self {m : Mem} {d : Nat} {x : Option Blk} (h : m d = x) : updM m d x = m := by
  funext t; simp only [updM_lit]; split
  · rename_i e; rw [e, h]
  · rfl
def natOf : T → Nat
  | .v (.int _ k) => k.toNat
  | .sv _ _ n => n
  | _ => 0
@[simp] theorem natOf_int (k : IntKind) (x : Int) : natOf (.v (.int k x)) = x.toNat := rfl
@[simp] theorem natOf_sv (i c n : Nat) : natOf (.sv i c n) = n := rfl
/-- What lies from n on. -/
def upper (n : Nat) (m : Mem) : Mem := fun j => if n ≤ j then m j else none
@[simp] theorem upper_def (n j : Nat) (m : Mem) : upper n m j = if n ≤ j then m j else none := rfl
/-- A row in the frame's memory, or none yet. -/
def IsRow (m : Mem) (lo hi : Nat) (e : Nat) (st : T) (xs : List V) : Prop := (st = .nil ∧ xs = []) ∨ ∃ i, st = .loc i ∧ lo ≤ i ∧ i < hi ∧ m i = some (.arr e xs)
theorem IsRow.cell {m : Mem} {lo hi e : Nat} {st : T} {xs : List V} (h : IsRow m lo hi e st xs) : st.cell = true := by
  rcases h with ⟨rfl, _⟩ | ⟨i, rfl, _⟩ <;> rfl
theorem IsRow.bor {m m' : Mem} {lo hi e n0 : Nat} {st : T} {xs : List V} (h : IsRow m lo hi e st xs) (hn : n0 ≤ lo) (hm : ∀ i, st = .loc i → lo ≤ i → i < hi → m' i = m i) (d : Nat) : bor true (upper n0 m') d st = some (.sl xs) := by
  rcases h with ⟨rfl, rfl⟩ | ⟨i, rfl, h1, h2, h3⟩
  · simp
  · have : n0 ≤ i := by omega
    simp [hm i rfl h1 h2, h3, this]
theorem nes (n : Nat) : (¬ n = n + 1) ∧ (¬ n = n + 1 + 1) ∧ (¬ n = n + 1 + 1 + 1) ∧ (¬ n = n + 1 + 1 + 1 + 1) ∧ (¬ n = n + 1 + 1 + 1 + 1 + 1) ∧ (¬ n = n + 1 + 1 + 1 + 1 + 1 + 1) ∧ (¬ n = n + 1 + 1 + 1 + 1 + 1 + 1 + 1) ∧ (¬ n + 1 = n) ∧ (¬ n + 1 = n + 1 + 1) ∧ (¬ n + 1 = n + 1 + 1 + 1) ∧ (¬ n + 1 = n + 1 + 1 + 1 + 1) ∧ (¬ n + 1 = n + 1 + 1 + 1 + 1 + 1) ∧ (¬ n + 1 = n + 1 + 1 + 1 + 1 + 1 + 1) ∧ (¬ n + 1 = n + 1 + 1 + 1 + 1 + 1 + 1 + 1) ∧ (¬ n + 1 + 1 = n) ∧ (¬ n + 1 + 1 = n + 1) ∧ (¬ n + 1 + 1 = n + 1 + 1 + 1) ∧ (¬ n + 1 + 1 = n + 1 + 1 + 1 + 1) ∧ (¬ n + 1 + 1 = n + 1 + 1 + 1 + 1 + 1) ∧ (¬ n + 1 + 1 = n + 1 + 1 + 1 + 1 + 1 + 1) ∧ (¬ n + 1 + 1 = n + 1 + 1 + 1 + 1 + 1 + 1 + 1) ∧ (¬ n + 1 + 1 + 1 = n) ∧ (¬ n + 1 + 1 + 1 = n + 1) ∧ (¬ n + 1 + 1 + 1 = n + 1 + 1) ∧ (¬ n + 1 + 1 + 1 = n + 1 + 1 + 1 + 1) ∧ (¬ n + 1 + 1 + 1 = n + 1 + 1 + 1 + 1 + 1) ∧ (¬ n + 1 + 1 + 1 = n + 1 + 1 + 1 + 1 + 1 + 1) ∧ (¬ n + 1 + 1 + 1 = n + 1 + 1 + 1 + 1 + 1 + 1 + 1) ∧ (¬ n + 1 + 1 + 1 + 1 = n) ∧ (¬ n + 1 + 1 + 1 + 1 = n + 1) ∧ (¬ n + 1 + 1 + 1 + 1 = n + 1 + 1) ∧ (¬ n + 1 + 1 + 1 + 1 = n + 1 + 1 + 1) ∧ (¬ n + 1 + 1 + 1 + 1 = n + 1 + 1 + 1 + 1 + 1) ∧ (¬ n + 1 + 1 + 1 + 1 = n + 1 + 1 + 1 + 1 + 1 + 1) ∧ (¬ n + 1 + 1 + 1 + 1 = n + 1 + 1 + 1 + 1 + 1 + 1 + 1) ∧ (¬ n + 1 + 1 + 1 + 1 + 1 = n) ∧ (¬ n + 1 + 1 + 1 + 1 + 1 = n + 1) ∧ (¬ n + 1 + 1 + 1 + 1 + 1 = n + 1 + 1) ∧ (¬ n + 1 + 1 + 1 + 1 + 1 = n + 1 + 1 + 1) ∧ (¬ n + 1 + 1 + 1 + 1 + 1 = n + 1 + 1 + 1 + 1) ∧ (¬ n + 1 + 1 + 1 + 1 + 1 = n + 1 + 1 + 1 + 1 + 1 + 1) ∧ (¬ n + 1 + 1 + 1 + 1 + 1 = n + 1 + 1 + 1 + 1 + 1 + 1 + 1) ∧ (¬ n + 1 + 1 + 1 + 1 + 1 + 1 = n) ∧ (¬ n + 1 + 1 + 1 + 1 + 1 + 1 = n + 1) ∧ (¬ n + 1 + 1 + 1 + 1 + 1 + 1 = n + 1 + 1) ∧ (¬ n + 1 + 1 + 1 + 1 + 1 + 1 = n + 1 + 1 + 1) ∧ (¬ n + 1 + 1 + 1 + 1 + 1 + 1 = n + 1 + 1 + 1 + 1) ∧ (¬ n + 1 + 1 + 1 + 1 + 1 + 1 = n + 1 + 1 + 1 + 1 + 1) ∧ (¬ n + 1 + 1 + 1 + 1 + 1 + 1 = n + 1 + 1 + 1 + 1 + 1 + 1 + 1) ∧ (¬ n + 1 + 1 + 1 + 1 + 1 + 1 + 1 = n) ∧ (¬ n + 1 + 1 + 1 + 1 + 1 + 1 + 1 = n + 1) ∧ (¬ n + 1 + 1 + 1 + 1 + 1 + 1 + 1 = n + 1 + 1) ∧ (¬ n + 1 + 1 + 1 + 1 + 1 + 1 + 1 = n + 1 + 1 + 1) ∧ (¬ n + 1 + 1 + 1 + 1 + 1 + 1 + 1 = n + 1 + 1 + 1 + 1) ∧ (¬ n + 1 + 1 + 1 + 1 + 1 + 1 + 1 = n + 1 + 1 + 1 + 1 + 1) ∧ (¬ n + 1 + 1 + 1 + 1 + 1 + 1 + 1 = n + 1 + 1 + 1 + 1 + 1 + 1) := by
  refine ⟨?_, ?_, ?_, ?_, ?_, ?_, ?_, ?_, ?_, ?_, ?_, ?_, ?_, ?_, ?_, ?_, ?_, ?_, ?_, ?_, ?_, ?_, ?_, ?_, ?_, ?_, ?_, ?_, ?_, ?_, ?_, ?_, ?_, ?_, ?_, ?_, ?_, ?_, ?_, ?_, ?_, ?_, ?_, ?_, ?_, ?_, ?_, ?_, ?_, ?_, ?_, ?_, ?_, ?_, ?_, ?_⟩ <;> omega
theorem ft (b : Bool) : b = false ∨ b = true := by cases b <;> simp
theorem far {a n : Nat} (lt : a < n) : (¬ a = n) ∧ (¬ n = a) ∧ (∀ x0, ¬ a = n + x0) ∧ (∀ x0, ¬ n + x0 = a) ∧ (∀ x0 x1, ¬ a = n + x0 + x1) ∧ (∀ x0 x1, ¬ n + x0 + x1 = a) ∧ (∀ x0 x1 x2, ¬ a = n + x0 + x1 + x2) ∧ (∀ x0 x1 x2, ¬ n + x0 + x1 + x2 = a) ∧ (∀ x0 x1 x2 x3, ¬ a = n + x0 + x1 + x2 + x3) ∧ (∀ x0 x1 x2 x3, ¬ n + x0 + x1 + x2 + x3 = a) ∧ (∀ x0 x1 x2 x3 x4, ¬ a = n + x0 + x1 + x2 + x3 + x4) ∧ (∀ x0 x1 x2 x3 x4, ¬ n + x0 + x1 + x2 + x3 + x4 = a) ∧ (∀ x0 x1 x2 x3 x4 x5, ¬ a = n + x0 + x1 + x2 + x3 + x4 + x5) ∧ (∀ x0 x1 x2 x3 x4 x5, ¬ n + x0 + x1 + x2 + x3 + x4 + x5 = a) ∧ (∀ x0 x1 x2 x3 x4 x5 x6, ¬ a = n + x0 + x1 + x2 + x3 + x4 + x5 + x6) ∧ (∀ x0 x1 x2 x3 x4 x5 x6, ¬ n + x0 + x1 + x2 + x3 + x4 + x5 + x6 = a) ∧ (∀ x0 x1 x2 x3 x4 x5 x6 x7, ¬ a = n + x0 + x1 + x2 + x3 + x4 + x5 + x6 + x7) ∧ (∀ x0 x1 x2 x3 x4 x5 x6 x7, ¬ n + x0 + x1 + x2 + x3 + x4 + x5 + x6 + x7 = a) ∧ (∀ x0 x1 x2 x3 x4 x5 x6 x7 x8, ¬ a = n + x0 + x1 + x2 + x3 + x4 + x5 + x6 + x7 + x8) ∧ (∀ x0 x1 x2 x3 x4 x5 x6 x7 x8, ¬ n + x0 + x1 + x2 + x3 + x4 + x5 + x6 + x7 + x8 = a) ∧ (∀ x0 x1 x2 x3 x4 x5 x6 x7 x8 x9, ¬ a = n + x0 + x1 + x2 + x3 + x4 + x5 + x6 + x7 + x8 + x9) ∧ (∀ x0 x1 x2 x3 x4 x5 x6 x7 x8 x9, ¬ n + x0 + x1 + x2 + x3 + x4 + x5 + x6 + x7 + x8 + x9 = a) :=
  ⟨by omega, by omega, fun _ => by omega, fun _ => by omega, fun _ _ => by omega, fun _ _ => by omega, fun _ _ _ => by omega, fun _ _ _ => by omega, fun _ _ _ _ => by omega, fun _ _ _ _ => by omega, fun _ _ _ _ _ => by omega, fun _ _ _ _ _ => by omega, fun _ _ _ _ _ _ => by omega, fun _ _ _ _ _ _ => by omega, fun _ _ _ _ _ _ _ => by omega, fun _ _ _ _ _ _ _ => by omega, fun _ _ _ _ _ _ _ _ => by omega, fun _ _ _ _ _ _ _ _ => by omega, fun _ _ _ _ _ _ _ _ _ => by omega, fun _ _ _ _ _ _ _ _ _ => by omega, fun _ _ _ _ _ _ _ _ _ _ => by omega, fun _ _ _ _ _ _ _ _ _ _ => by omega⟩
end TL

/- Terms, claims, stories, places: what is one. -/
set_option linter.unusedSimpArgs false
set_option linter.unusedVariables false
set_option maxRecDepth 100000
set_option maxHeartbeats 4000000
set_option pp.maxSteps 1500
namespace TL
open Go Go.Proofs
attribute [local simp] marksV storyV codeV Claim.v Place.v
def peopleOk (p : Int) : Bool := decide (1 ≤ p) && decide (p ≤ 4)
def markStep (people : Int) (parts : Nat) (m : Mark) : Option Nat :=
  if m.kind = 0 then (if 0 ≤ m.num ∧ m.num < people then some (parts + 1) else none)
  else if m.kind = 1 then (if 0 ≤ m.num ∧ m.num ≤ people + 1 then some (parts + 1) else none)
  else if m.kind = 2 then (if m.num = 0 ∧ 1 ≤ parts then some parts else none)
  else if m.kind = 3 ∨ m.kind = 4 ∨ m.kind = 5 then (if m.num = 0 ∧ 2 ≤ parts then some (parts - 1) else none)
  else none
def marksRun (people : Int) : Nat → List Mark → Option Nat
  | parts, [] => some parts
  | parts, m :: ms => (markStep people parts m).bind fun q => marksRun people q ms
def termOk (people : Int) (t : List Mark) : Bool := peopleOk people && decide (1 ≤ t.length) && decide (t.length ≤ 15) && decide (marksRun people 0 t = some 1)
theorem markStep_le {people : Int} {parts q : Nat} {m : Mark} (h : markStep people parts m = some q) : q ≤ parts + 1 := by
  unfold markStep at h
  repeat' split at h
  all_goals first | (cases h; done) | (cases h; omega)
def TOI (people : Int) (t : List Mark) (a : Nat) (s : S) : Prop := ∃ (i parts : Nat), s.tm 0 = .v (.int .i64 people) ∧ s.tm 21 = .v (.sl (t.map Mark.v)) ∧ s.tm 22 = .v (.int .i64 t.length) ∧ s.tm 23 = .v (.int .i64 i) ∧ s.tm 5 = .v (.int .i64 parts) ∧ i ≤ t.length ∧ parts ≤ i ∧
  marksRun people parts (t.drop i) = marksRun people 0 t ∧ (a = 1 → i = t.length)
theorem termOk_fn (people : Int) (t : List Mark) : FnZ Tryz.prog 119 [.int .i64 people, marksV t] (.bool (termOk people t)) := by
  by_cases hp : 1 ≤ people ∧ people ≤ 4
  case neg =>
    have hk : peopleOk people = false := by simp only [peopleOk, Bool.and_eq_false_iff, decide_eq_false_iff_not]; omega
    have hr : termOk people t = false := by simp [termOk, hk]
    rw [hr]
    refine FnZ_of (rs := [.tmp 4]) false Tryz.func119 rfl rfl rfl rfl (Nat.le_of_ble_eq_true rfl) ?_
    simp -dsimp
    refine call_ (peopleOk_fn people) (by simp) ?_
    rw [show (decide (1 ≤ people) && decide (people ≤ 4)) = false from hk]
    simp -dsimp
  have hk : peopleOk people = true := by simp [peopleOk, hp]
  by_cases hl : 1 ≤ t.length ∧ t.length ≤ 15
  case neg =>
    have hr : termOk people t = false := by
      simp only [termOk, hk, Bool.true_and, Bool.and_eq_false_iff, decide_eq_false_iff_not]; omega
    rw [hr]
    refine FnZ_of (rs := [.tmp 4]) false Tryz.func119 rfl rfl rfl rfl (Nat.le_of_ble_eq_true rfl) ?_
    simp -dsimp
    refine call_ (peopleOk_fn people) (by simp) ?_
    rw [show (decide (1 ≤ people) && decide (people ≤ 4)) = true from hk]
    by_cases h0 : (t.length : Int) < 1
    · simp -dsimp [h0]
    · have h1 : (15 : Int) < t.length := by omega
      simp -dsimp [h0, h1]
  have h0 : ¬ (t.length : Int) < 1 := by omega
  have h1 : ¬ (15 : Int) < t.length := by omega
  have h1' : (t.length : Int) ≤ 15 := by omega
  have hr : termOk people t = decide (marksRun people 0 t = some 1) := by simp [termOk, hk, hl]
  rw [hr]
  refine FnZ_of (rs := [.tmp 4]) false Tryz.func119 rfl rfl rfl rfl (Nat.le_of_ble_eq_true rfl) ?_
  simp -dsimp
  refine call_ (peopleOk_fn people) (by simp) ?_
  rw [show (decide (1 ≤ people) && decide (people ≤ 4)) = true from hk]
  simp -dsimp [h0, h1, h1']
  refine twp_loopC (TOI people t 0) (fun s => t.length - natOf (s.tm 23)) (TOI people t 1) ?_ ?_ ?_
  · exact ⟨0, 0, by simp -dsimp, by simp -dsimp, by simp -dsimp, by simp -dsimp, by simp -dsimp, by simp, by simp, by simp, by simp⟩
  · rintro s ⟨i, parts, h0, h21, h22, h23, h5, hi, hpi, hrun, hend⟩
    by_cases hlt : i < t.length
    case neg =>
      simp -dsimp [h23, h22, hlt]
      exact ⟨i, parts, by simp [h0], by simp [h21], by simp [h22], by simp [h23], by simp [h5], hi, hpi, hrun, fun _ => by omega⟩
    have hget : (t.map Mark.v)[i]? = some (.agg [.int .i64 t[i].kind, .int .i64 t[i].num]) := by simp [Mark.v, hlt]
    have hstep := hrun
    rw [drop_cons hlt] at hstep
    simp only [marksRun] at hstep
    have wi : IntKind.wrap .i64 ((i : Int) + 1) = ((i + 1 : Nat) : Int) := by rw [w64 (by omega) (by omega)]; omega
    have wp : IntKind.wrap .i64 ((parts : Int) + 1) = ((parts + 1 : Nat) : Int) := by rw [w64 (by omega) (by omega)]; omega
    have wq : IntKind.wrap .i64 ((parts : Int) - 1) = if 1 ≤ parts then ((parts - 1 : Nat) : Int) else -1 := by rw [w64 (by omega) (by omega)]; split <;> omega
    have hmu : t.length - (i + 1) < t.length - i := by omega
    by_cases k0 : t[i].kind = 0
    · by_cases a0 : 0 ≤ t[i].num ∧ t[i].num < people
      · have hs : markStep people parts t[i] = some (parts + 1) := by simp [markStep, k0, a0]
        rw [hs] at hstep
        simp -dsimp [h0, h5, h23, h22, h21, hlt, hget, wi, wp, wq, k0, show ¬ t[i].num < 0 by omega, show ¬ people ≤ t[i].num by omega, hmu]
        exact ⟨i + 1, parts + 1, by simp -dsimp [h0], by simp -dsimp [h21], by simp -dsimp [h22], by simp -dsimp, by simp -dsimp [h5], by omega, by omega, hstep, by simp⟩
      · have hs : markStep people parts t[i] = none := by simp only [markStep, k0, if_neg a0, if_true]
        rw [hs] at hstep
        have hn : marksRun people 0 t = none := hstep.symm
        by_cases a1 : t[i].num < 0
        · simp -dsimp [h0, h5, h23, h22, h21, hlt, hget, wi, wp, wq, k0, a1, hn]
        · simp -dsimp [h0, h5, h23, h22, h21, hlt, hget, wi, wp, wq, k0, a1, hn, show people ≤ t[i].num by omega]
    by_cases k1 : t[i].kind = 1
    · have w1 : IntKind.wrap .i64 (people + 1) = people + 1 := w64 (by omega) (by omega)
      by_cases a0 : 0 ≤ t[i].num ∧ t[i].num ≤ people + 1
      · have hs : markStep people parts t[i] = some (parts + 1) := by simp [markStep, k1, a0]
        rw [hs] at hstep
        simp -dsimp [h0, h5, h23, h22, h21, hlt, hget, wi, wp, wq, k1, w1, show ¬ t[i].num < 0 by omega, show ¬ people + 1 < t[i].num by omega, hmu]
        exact ⟨i + 1, parts + 1, by simp -dsimp [h0], by simp -dsimp [h21], by simp -dsimp [h22], by simp -dsimp, by simp -dsimp [h5], by omega, by omega, hstep, by simp⟩
      · have hs : markStep people parts t[i] = none := by simp only [markStep, k1, if_neg a0, if_true]; simp
        rw [hs] at hstep
        have hn : marksRun people 0 t = none := hstep.symm
        by_cases a1 : t[i].num < 0
        · simp -dsimp [h0, h5, h23, h22, h21, hlt, hget, wi, wp, wq, k1, a1, hn]
        · simp -dsimp [h0, h5, h23, h22, h21, hlt, hget, wi, wp, wq, k1, a1, hn, w1, show people + 1 < t[i].num by omega]
    by_cases k2 : t[i].kind = 2
    · by_cases a0 : t[i].num = 0 ∧ 1 ≤ parts
      · have hs : markStep people parts t[i] = some (parts) := by simp [markStep, k2, a0]
        rw [hs] at hstep
        simp -dsimp [h0, h5, h23, h22, h21, hlt, hget, wi, wp, wq, k2, a0.1, show ¬ (parts : Int) < 1 by omega, show ¬ parts = 0 by omega, hmu]
        exact ⟨i + 1, parts, by simp -dsimp [h0], by simp -dsimp [h21], by simp -dsimp [h22], by simp -dsimp, by simp -dsimp [h5], by omega, by omega, hstep, by simp⟩
      · have hs : markStep people parts t[i] = none := by simp only [markStep, k2, if_neg a0, if_true]; simp
        rw [hs] at hstep
        have hn : marksRun people 0 t = none := hstep.symm
        by_cases a1 : t[i].num = 0
        · simp -dsimp [h0, h5, h23, h22, h21, hlt, hget, wi, wp, wq, k2, a1, hn, show (parts : Int) < 1 by omega, show parts = 0 by omega]
        · simp -dsimp [h0, h5, h23, h22, h21, hlt, hget, wi, wp, wq, k2, a1, hn]
    by_cases k3 : t[i].kind = 3 ∨ t[i].kind = 4 ∨ t[i].kind = 5
    · by_cases a0 : t[i].num = 0 ∧ 2 ≤ parts
      · have hs : markStep people parts t[i] = some (parts - 1) := by simp [markStep, k0, k1, k2, k3, a0]
        rw [hs] at hstep
        have e1 : ¬ (parts : Int) < 2 := by omega
        have e2 : 1 ≤ parts := by omega
        rcases k3 with k3 | k3 | k3
        all_goals
          simp -dsimp [h0, h5, h23, h22, h21, hlt, hget, wi, wp, wq, k3, a0.1, e1, e2, hmu]
          exact ⟨i + 1, parts - 1, by simp -dsimp [h0], by simp -dsimp [h21], by simp -dsimp [h22], by simp -dsimp, by simp -dsimp [h5], by omega, by omega, hstep, by simp⟩
      · have hs : markStep people parts t[i] = none := by simp only [markStep, if_neg k0, if_neg k1, if_neg k2, if_pos k3, if_neg a0]
        rw [hs] at hstep
        have hn : marksRun people 0 t = none := hstep.symm
        by_cases a1 : t[i].num = 0
        · have e1 : (parts : Int) < 2 := by omega
          rcases k3 with k3 | k3 | k3 <;> simp -dsimp [h0, h5, h23, h22, h21, hlt, hget, wi, wp, wq, k3, a1, hn, e1]
        · rcases k3 with k3 | k3 | k3 <;> simp -dsimp [h0, h5, h23, h22, h21, hlt, hget, wi, wp, wq, k3, a1, hn]
    · have hs : markStep people parts t[i] = none := by simp only [markStep, if_neg k0, if_neg k1, if_neg k2, if_neg k3]
      rw [hs] at hstep
      have hn : marksRun people 0 t = none := hstep.symm
      have k3' := not_or.1 k3
      have k4' := not_or.1 k3'.2
      simp -dsimp [h0, h5, h23, h22, h21, hlt, hget, wi, wp, wq, k0, k1, k2, k3'.1, k4'.1, k4'.2, hn]
  · rintro s ⟨i, parts, h0, h21, h22, h23, h5, hi, hpi, hrun, hend⟩
    simp -dsimp [h5]
    have := hend rfl
    subst this
    simp [marksRun] at hrun
    rw [← hrun]; simp; omega
end TL

/- spec: terms, claims, stories, places. -/
set_option linter.unusedSimpArgs false
set_option linter.unusedVariables false
set_option maxRecDepth 100000
set_option maxHeartbeats 4000000
set_option pp.maxSteps 1500
namespace TL
open Go Go.Proofs
attribute [local simp] marksV storyV codeV Claim.v Place.v
def inR (n a b : Int) : Bool := decide (a ≤ n) && decide (n ≤ b)
theorem inR_true {n a b : Int} : inR n a b = true ↔ a ≤ n ∧ n ≤ b := by simp [inR]
theorem inR_false {n a b : Int} : inR n a b = false ↔ ¬ (a ≤ n ∧ n ≤ b) := by rw [← inR_true]; cases inR n a b <;> simp
theorem l1In_fn (n a b : Int) : FnZ Tryz.prog 61 [.int .i64 n, .int .i64 a, .int .i64 b] (.bool (inR n a b)) := by
  unfold inR
  refine FnZ_of (rs := [.tmp 6]) false Tryz.func61 rfl rfl rfl rfl (Nat.le_of_ble_eq_true rfl) ?_
  by_cases h : a ≤ n <;> simp -dsimp [h]
theorem termOk_eq (people : Int) (t : List Mark) : termOk people t = (peopleOk people && decide (marksRun people 0 t = some 1) && decide (t.length ≤ 15)) := by
  cases t with
  | nil => simp [termOk, marksRun]
  | cons x xs =>
    rw [Bool.eq_iff_iff]
    simp only [termOk, Bool.and_eq_true, decide_eq_true_eq, List.length_cons]
    constructor
    · rintro ⟨⟨⟨h1, h2⟩, h3⟩, h4⟩; exact ⟨⟨h1, h4⟩, h3⟩
    · rintro ⟨⟨h1, h4⟩, h3⟩; exact ⟨⟨⟨h1, by omega⟩, h3⟩, h4⟩
def TOS (people : Int) (t : List Mark) (a : Nat) (s : S) : Prop := ∃ (i parts : Nat), s.tm 0 = .v (.int .i64 people) ∧ s.tm 1 = .v (.sl (t.map Mark.v)) ∧ s.tm 6 = .v (.int .i64 i) ∧ s.tm 5 = .v (.int .i64 parts) ∧ i ≤ t.length ∧ parts ≤ i ∧
  marksRun people parts (t.drop i) = marksRun people 0 t ∧ (a = 1 → i = t.length)
theorem termOkS_fn (people : Int) (t : List Mark) (hf : fits t) (hl : t.length < 1000000000000) : FnZ Tryz.prog 111 [.int .i64 people, marksV t] (.bool (termOk people t)) := by
  rw [termOk_eq]
  refine FnZ_of (rs := [.tmp 4]) false Tryz.func111 rfl rfl rfl rfl (Nat.le_of_ble_eq_true rfl) ?_
  simp -dsimp
  refine twp_loopC (TOS people t 0) (fun s => t.length - natOf (s.tm 6)) (TOS people t 1) ?_ ?_ ?_
  · exact ⟨0, 0, by simp -dsimp, by simp -dsimp, by simp -dsimp, by simp -dsimp, by simp, by simp, by simp, by simp⟩
  · rintro s ⟨i, parts, h0, h1, h6, h5, hi, hpi, hrun, hend⟩
    by_cases hlt : i < t.length
    case neg =>
      simp -dsimp [h1, h6, hlt]
      exact ⟨i, parts, by simp -dsimp [h0], by simp -dsimp [h1], by simp -dsimp [h6], by simp -dsimp [h5], hi, hpi, hrun, fun _ => by omega⟩
    have hget : (t.map Mark.v)[i]? = some (.agg [.int .i64 t[i].kind, .int .i64 t[i].num]) := by simp [Mark.v, hlt]
    have hv : t[i].v = .agg [.int .i64 t[i].kind, .int .i64 t[i].num] := rfl
    have hfi := hf t[i] (List.getElem_mem _)
    have hfa := hfi.2
    unfold TL.fit at hfa
    have hstep := hrun
    rw [drop_cons hlt] at hstep
    simp only [marksRun] at hstep
    have wi : IntKind.wrap .i64 ((i : Int) + 1) = ((i + 1 : Nat) : Int) := by rw [w64 (by omega) (by omega)]; omega
    have wp : IntKind.wrap .i64 ((parts : Int) + 1) = ((parts + 1 : Nat) : Int) := by rw [w64 (by omega) (by omega)]; omega
    have wq : 2 ≤ parts → IntKind.wrap .i64 ((parts : Int) - 1) = ((parts - 1 : Nat) : Int) := fun h => by rw [w64 (by omega) (by omega)]; omega
    have hmu : t.length - (i + 1) < t.length - i := by omega
    have bad : markStep people parts t[i] = none → marksRun people 0 t = none := fun hs => by rw [hs] at hstep; exact hstep.symm
    by_cases k0 : t[i].kind = 0
    · by_cases a0 : 0 ≤ t[i].num ∧ t[i].num < people
      · have hs : markStep people parts t[i] = some (parts + 1) := by simp [markStep, k0, a0]
        rw [hs] at hstep
        simp -dsimp [h0, h1, h5, h6, hlt, hget, wi, wp, k0, a0.1, a0.2, hmu]
        exact ⟨i + 1, parts + 1, by simp -dsimp [h0], by simp -dsimp [h1], by simp -dsimp, by simp -dsimp [h5], by omega, by omega, hstep, by simp⟩
      · have hn := bad (by simp only [markStep, k0, if_neg a0, if_true])
        by_cases a1 : 0 ≤ t[i].num
        · have a2 : ¬ t[i].num < people := by omega
          simp -dsimp [h0, h1, h5, h6, hlt, hget, wi, wp, k0, a1, a2]
          refine call_ (l1In_fn _ _ _) (by simp -dsimp <;> exact ⟨rfl, rfl, rfl⟩) ?_
          simp -dsimp [k0, hn, show inR 0 3 5 = false from rfl]
        · simp -dsimp [h0, h1, h5, h6, hlt, hget, wi, wp, k0, a1]
          refine call_ (l1In_fn _ _ _) (by simp -dsimp <;> exact ⟨rfl, rfl, rfl⟩) ?_
          simp -dsimp [k0, hn, show inR 0 3 5 = false from rfl]
    by_cases k1 : t[i].kind = 1
    · have w1 : IntKind.wrap .i64 (t[i].num - 1) = if 0 ≤ t[i].num then t[i].num - 1 else IntKind.wrap .i64 (t[i].num - 1) := by
        split
        · exact w64 (by omega) (by omega)
        · rfl
      by_cases a0 : 0 ≤ t[i].num ∧ t[i].num ≤ people + 1
      · have hs : markStep people parts t[i] = some (parts + 1) := by simp [markStep, k1, a0]
        rw [hs] at hstep
        have w2 : IntKind.wrap .i64 (t[i].num - 1) = t[i].num - 1 := w64 (by omega) (by omega)
        by_cases a1 : t[i].num ≤ people
        · simp -dsimp [h0, h1, h5, h6, hlt, hget, wi, wp, k1, a0.1, a1, hmu]
          exact ⟨i + 1, parts + 1, by simp -dsimp [h0], by simp -dsimp [h1], by simp -dsimp, by simp -dsimp [h5], by omega, by omega, hstep, by simp⟩
        · have a2 : t[i].num - 1 = people := by omega
          simp -dsimp [h0, h1, h5, h6, hlt, hget, wi, wp, k1, a0.1, show ¬ t[i].num ≤ people from a1, w2.trans a2, hmu]
          exact ⟨i + 1, parts + 1, by simp -dsimp [h0], by simp -dsimp [h1], by simp -dsimp, by simp -dsimp [h5], by omega, by omega, hstep, by simp⟩
      · have hn := bad (by simp only [markStep, k1, if_neg a0, if_true]; simp)
        by_cases a1 : 0 ≤ t[i].num
        · have a2 : ¬ t[i].num ≤ people := by omega
          have a3 : ¬ t[i].num - 1 = people := by omega
          have w2 : IntKind.wrap .i64 (t[i].num - 1) = t[i].num - 1 := w64 (by omega) (by omega)
          simp -dsimp [h0, h1, h5, h6, hlt, hget, wi, wp, k1, a1, a2, w2, a3]
          refine call_ (l1In_fn _ _ _) (by simp -dsimp <;> exact ⟨rfl, rfl, rfl⟩) ?_
          simp -dsimp [k1, hn, show inR 1 3 5 = false from rfl]
        · simp -dsimp [h0, h1, h5, h6, hlt, hget, wi, wp, k1, a1]
          refine call_ (l1In_fn _ _ _) (by simp -dsimp <;> exact ⟨rfl, rfl, rfl⟩) ?_
          simp -dsimp [k1, hn, show inR 1 3 5 = false from rfl]
    by_cases k2 : t[i].kind = 2
    · by_cases a0 : t[i].num = 0 ∧ 1 ≤ parts
      · have hs : markStep people parts t[i] = some parts := by simp [markStep, k2, a0]
        rw [hs] at hstep
        have e1 : (1 : Int) ≤ parts := by omega
        simp -dsimp [h0, h1, h5, h6, hlt, hget, wi, wp, hv, k2, a0.1, e1, hmu]
        exact ⟨i + 1, parts, by simp -dsimp [h0], by simp -dsimp [h1], by simp -dsimp, by simp -dsimp [h5], by omega, by omega, hstep, by simp⟩
      · have hn := bad (by simp only [markStep, k2, if_neg a0, if_true]; simp)
        by_cases a1 : t[i].num = 0
        · have e1 : ¬ (1 : Int) ≤ parts := by omega
          simp -dsimp [h0, h1, h5, h6, hlt, hget, wi, wp, hv, k2, a1, e1]
          refine call_ (l1In_fn _ _ _) (by simp -dsimp <;> exact ⟨rfl, rfl, rfl⟩) ?_
          simp -dsimp [k2, hn, show inR 2 3 5 = false from rfl]
        · simp -dsimp [h0, h1, h5, h6, hlt, hget, wi, wp, hv, k2, a1]
          refine call_ (l1In_fn _ _ _) (by simp -dsimp <;> exact ⟨rfl, rfl, rfl⟩) ?_
          simp -dsimp [k2, hn, show inR 2 3 5 = false from rfl]
    have hk2 : (decide (t[i].kind = 2)) = false := by simp [k2]
    by_cases k3 : t[i].kind = 3 ∨ t[i].kind = 4 ∨ t[i].kind = 5
    · have hin : inR t[i].kind 3 5 = true := inR_true.2 (by omega)
      by_cases a0 : t[i].num = 0 ∧ 2 ≤ parts
      · have hs : markStep people parts t[i] = some (parts - 1) := by simp [markStep, k0, k1, k2, k3, a0]
        rw [hs] at hstep
        have e1 : (2 : Int) ≤ parts := by omega
        have wq := wq a0.2
        simp -dsimp [h0, h1, h5, h6, hlt, hget, wi, wp, hv, k0, k1, k2]
        refine call_ (l1In_fn _ _ _) (by simp -dsimp <;> exact ⟨rfl, rfl, rfl⟩) ?_
        simp -dsimp [h0, h1, h5, h6, hlt, hget, wi, wp, hin, a0.1, e1, wq, hmu]
        exact ⟨i + 1, parts - 1, by simp -dsimp [h0], by simp -dsimp [h1], by simp -dsimp, by simp -dsimp [h5], by omega, by omega, hstep, by simp⟩
      · have hn := bad (by simp only [markStep, if_neg k0, if_neg k1, if_neg k2, if_pos k3, if_neg a0])
        simp -dsimp [h0, h1, h5, h6, hlt, hget, wi, wp, hv, k0, k1, k2]
        refine call_ (l1In_fn _ _ _) (by simp -dsimp <;> exact ⟨rfl, rfl, rfl⟩) ?_
        by_cases a1 : t[i].num = 0
        · have e1 : ¬ (2 : Int) ≤ parts := by omega
          simp -dsimp [h0, h1, h5, h6, hlt, hget, wi, wp, hin, a1, e1, hn]
        · simp -dsimp [h0, h1, h5, h6, hlt, hget, wi, wp, hin, a1, hn]
    · have hn := bad (by simp only [markStep, if_neg k0, if_neg k1, if_neg k2, if_neg k3])
      have hin : inR t[i].kind 3 5 = false := inR_false.2 (by omega)
      simp -dsimp [h0, h1, h5, h6, hlt, hget, wi, wp, hv, k0, k1, k2]
      refine call_ (l1In_fn _ _ _) (by simp -dsimp <;> exact ⟨rfl, rfl, rfl⟩) ?_
      simp -dsimp [hin, hn]
  · rintro s ⟨i, parts, h0, h1, h6, h5, hi, hpi, hrun, hend⟩
    have := hend rfl
    subst this
    simp [marksRun] at hrun
    simp -dsimp [h0]
    refine call_ (l1In_fn _ _ _) (by simp -dsimp <;> exact ⟨rfl, rfl, rfl⟩) ?_
    have hpk : inR people 1 4 = peopleOk people := rfl
    have hk := ft (peopleOk people)
    rcases hk with hk | hk
    · simp -dsimp [hpk, hk, ← hrun]
    · by_cases e1 : parts = 1
      · have e2 : (parts : Int) = 1 := by omega
        simp -dsimp [h1, h5, e1, hpk, hk, ← hrun]; omega
      · have e2 : ¬ (parts : Int) = 1 := by omega
        simp -dsimp [h1, h5, e1, e2, hpk, hk, ← hrun]
end TL

/- Terms as trees; their texts. -/
set_option linter.unusedSimpArgs false
set_option linter.unusedVariables false
set_option maxRecDepth 100000
set_option maxHeartbeats 4000000
set_option pp.maxSteps 1500
namespace TL
open Go Go.Proofs
attribute [local simp] marksV storyV codeV Claim.v Place.v
inductive Tm where
  | tells (i : Nat) | count (n : Nat) | not (a : Tm) | bin (k : Nat) (a b : Tm)
def Tm.marks : Tm → List Mark
  | .tells i => [⟨0, i⟩]
  | .count n => [⟨1, n⟩]
  | .not a => a.marks ++ [⟨2, 0⟩]
  | .bin k a b => a.marks ++ b.marks ++ [⟨3 + k, 0⟩]
def Tm.kind : Tm → Nat
  | .tells _ => 0
  | .count _ => 1
  | .not _ => 2
  | .bin k _ _ => 3 + k
def Tm.ok : Tm → Prop
  | .tells i => i < 4
  | .count n => n < 6
  | .not a => a.ok
  | .bin k a b => k < 3 ∧ a.ok ∧ b.ok
def par (b : Bool) (s : List UInt8) : List UInt8 := if b then 40 :: (s ++ [41]) else s
def sign (k : Nat) : UInt8 := if k = 0 then 38 else if k = 1 then 124 else 61
def Tm.text : Tm → List UInt8
  | .tells i => [UInt8.ofNat (97 + i)]
  | .count n => [UInt8.ofNat (48 + n)]
  | .not a => 33 :: par (decide (3 ≤ a.kind)) a.text
  | .bin k a b => par (decide (3 + k < a.kind)) a.text ++ sign k :: par (decide (3 + k ≤ b.kind)) b.text
theorem par_len (b : Bool) (s : List UInt8) : (par b s).length ≤ s.length + 2 := by unfold par; split <;> simp
theorem Tm.marks_pos : ∀ T : Tm, 1 ≤ T.marks.length
  | .tells _ => by simp [marks]
  | .count _ => by simp [marks]
  | .not a => by simp [marks]
  | .bin k a b => by simp [marks]; omega
theorem Tm.text_len : ∀ T : Tm, T.text.length ≤ 6 * T.marks.length
  | .tells _ => by simp [text, marks]
  | .count _ => by simp [text, marks]
  | .not a => by
    have := a.text_len; have := par_len (decide (3 ≤ a.kind)) a.text
    simp [text, marks] at *; omega
  | .bin k a b => by
    have := a.text_len; have := b.text_len; have := par_len (decide (3 + k < a.kind)) a.text; have := par_len (decide (3 + k ≤ b.kind)) b.text
    simp [text, marks] at *; omega
theorem Tm.last : ∀ T : Tm, ∃ pre m, T.marks = pre ++ [m] ∧ m.kind = (T.kind : Int)
  | .tells i => ⟨[], ⟨0, i⟩, rfl, rfl⟩
  | .count n => ⟨[], ⟨1, n⟩, rfl, rfl⟩
  | .not a => ⟨a.marks, ⟨2, 0⟩, rfl, rfl⟩
  | .bin k a b => ⟨a.marks ++ b.marks, ⟨3 + k, 0⟩, rfl, by simp [kind]⟩
theorem Tm.kinds : ∀ T : Tm, T.ok → ∀ m ∈ T.marks, 0 ≤ m.kind ∧ m.kind ≤ 5
  | .tells i, _, m, hm => by simp [marks] at hm; subst hm; simp
  | .count n, _, m, hm => by simp [marks] at hm; subst hm; simp
  | .not a, h, m, hm => by
    simp only [marks, List.mem_append, List.mem_singleton] at hm
    rcases hm with hm | rfl
    · exact a.kinds h m hm
    · simp
  | .bin k a b, h, m, hm => by
    simp only [marks, List.mem_append, List.mem_singleton] at hm
    rcases hm with (hm | hm) | rfl
    · exact a.kinds h.2.1 m hm
    · exact b.kinds h.2.2 m hm
    · have := h.1; simp; omega
/-! A row of marks that is a term is a tree. -/
def flat (st : List Tm) : List Mark := st.flatMap Tm.marks
theorem flat_append (a b : List Tm) : flat (a ++ b) = flat a ++ flat b := by simp [flat]
theorem last_of {α : Type} {l : List α} {n : Nat} (h : l.length = n + 1) : ∃ a x, l = a ++ [x] ∧ a.length = n := by
  have hne : l ≠ [] := by rintro rfl; simp at h
  refine ⟨l.dropLast, l.getLast hne, (List.dropLast_concat_getLast hne).symm, by simp [h]⟩
theorem run_tree {people : Int} (hp : people ≤ 4) : ∀ (ms : List Mark) (parts q : Nat) (st : List Tm), st.length = parts → (∀ T ∈ st, T.ok) → marksRun people parts ms = some q → ∃ st' : List Tm, st'.length = q ∧ (∀ T ∈ st', T.ok) ∧ flat st' = flat st ++ ms
  | [], parts, q, st, h1, h2, h3 => by
    simp [marksRun] at h3; exact ⟨st, by omega, h2, by simp⟩
  | m :: ms, parts, q, st, h1, h2, h3 => by
    simp only [marksRun] at h3
    cases e : markStep people parts m with
    | none => rw [e] at h3; cases h3
    | some r =>
      rw [e] at h3
      have go : ∀ st1 : List Tm, st1.length = r → (∀ T ∈ st1, T.ok) → flat st1 = flat st ++ [m] → ∃ st' : List Tm, st'.length = q ∧ (∀ T ∈ st', T.ok) ∧ flat st' = flat st ++ m :: ms := fun st1 a b c => by
        obtain ⟨st', x, y, z⟩ := run_tree hp ms r q st1 a b h3
        exact ⟨st', x, y, by rw [z, c]; simp⟩
      obtain ⟨k, a⟩ := m
      unfold markStep at e
      simp only at e
      split at e
      · rename_i hk; subst hk
        split at e
        · rename_i ha; cases e
          refine go (st ++ [.tells a.toNat]) (by simp; omega) ?_ ?_
          · intro T hT; rcases List.mem_append.1 hT with hT | hT
            · exact h2 T hT
            · cases List.mem_singleton.1 hT; show a.toNat < 4; omega
          · have : ((a.toNat : Nat) : Int) = a := by omega
            simp [flat, Tm.marks, this]
        · cases e
      split at e
      · rename_i hk; subst hk
        split at e
        · rename_i ha; cases e
          refine go (st ++ [.count a.toNat]) (by simp; omega) ?_ ?_
          · intro T hT; rcases List.mem_append.1 hT with hT | hT
            · exact h2 T hT
            · cases List.mem_singleton.1 hT; show a.toNat < 6; omega
          · have : ((a.toNat : Nat) : Int) = a := by omega
            simp [flat, Tm.marks, this]
        · cases e
      split at e
      · rename_i hk; subst hk
        split at e
        · rename_i ha; cases e
          obtain ⟨rfl, hp1⟩ := ha
          obtain ⟨st0, x, rfl, hx⟩ := last_of (l := st) (n := parts - 1) (by omega)
          refine go (st0 ++ [.not x]) (by simp at h1 ⊢; omega) ?_ ?_
          · intro T hT; rcases List.mem_append.1 hT with hT | hT
            · exact h2 T (List.mem_append_left _ hT)
            · cases List.mem_singleton.1 hT; exact h2 x (by simp)
          · simp [flat, Tm.marks]
        · cases e
      split at e
      · rename_i hk
        split at e
        · rename_i ha; cases e
          obtain ⟨rfl, hp1⟩ := ha
          obtain ⟨st0, y, rfl, hy⟩ := last_of (l := st) (n := parts - 1) (by omega)
          obtain ⟨st1, x, rfl, hx⟩ := last_of (l := st0) (n := parts - 2) (by omega)
          refine go (st1 ++ [.bin (k - 3).toNat x y]) (by simp at h1 ⊢; omega) ?_ ?_
          · intro T hT; rcases List.mem_append.1 hT with hT | hT
            · exact h2 T (by simp [hT])
            · cases List.mem_singleton.1 hT; exact ⟨by omega, h2 x (by simp), h2 y (by simp)⟩
          · have : (3 : Int) + ((k - 3).toNat : Nat) = k := by omega
            simp [flat, Tm.marks]; omega
        · cases e
      · cases e
theorem termOk_tree {people : Int} {t : List Mark} (h : termOk people t = true) : ∃ T : Tm, T.ok ∧ T.marks = t := by
  simp only [termOk, peopleOk, Bool.and_eq_true, decide_eq_true_eq] at h
  obtain ⟨st, h1, h2, h3⟩ := run_tree (by omega) t 0 1 [] rfl (by simp) h.2
  obtain ⟨T, rfl⟩ := List.length_eq_one_iff.1 h1
  exact ⟨T, h2 T (by simp), by simpa [flat] using h3⟩
/-! Where the last part begins. -/
def dl (m : Mark) : Int := if m.kind = 0 ∨ m.kind = 1 then -1 else if m.kind = 3 ∨ m.kind = 4 ∨ m.kind = 5 then 1 else 0
def dsum (l : List Mark) : Int := (l.map dl).sum
@[simp] theorem dsum_nil : dsum [] = 0 := rfl
@[simp] theorem dsum_cons (m : Mark) (l : List Mark) : dsum (m :: l) = dl m + dsum l := by simp [dsum]
@[simp] theorem dsum_append (a b : List Mark) : dsum (a ++ b) = dsum a + dsum b := by simp [dsum]
theorem dl_abs (m : Mark) : -1 ≤ dl m ∧ dl m ≤ 1 := by unfold dl; split <;> (try split) <;> omega
theorem dsum_abs : ∀ l : List Mark, -(l.length : Int) ≤ dsum l ∧ dsum l ≤ l.length
  | [] => by simp
  | m :: l => by have := dsum_abs l; have := dl_abs m; simp; omega
theorem Tm.scan : ∀ T : Tm, T.ok → dsum T.marks = -1 ∧ ∀ j, 1 ≤ j → 0 ≤ dsum (T.marks.drop j)
  | .tells i, _ => ⟨by simp [marks, dl], fun j hj => by rw [List.drop_eq_nil_of_le (by simp [marks]; omega)]; simp⟩
  | .count i, _ => ⟨by simp [marks, dl], fun j hj => by rw [List.drop_eq_nil_of_le (by simp [marks]; omega)]; simp⟩
  | .not a, h => by
    obtain ⟨h1, h2⟩ := a.scan h
    have e : dl ⟨2, 0⟩ = 0 := by simp [dl]
    refine ⟨by simp [marks, h1, e], fun j hj => ?_⟩
    have := h2 j hj
    have e3 : 0 ≤ dsum ([(⟨2, 0⟩ : Mark)].drop (j - a.marks.length)) := by
      rcases Nat.eq_zero_or_pos (j - a.marks.length) with h | h
      · rw [h]; simp [e]
      · rw [List.drop_eq_nil_of_le (by simp; omega)]; simp
    simp only [marks, List.drop_append, dsum_append]; omega
  | .bin k a b, h => by
    obtain ⟨h1, h2⟩ := a.scan h.2.1
    obtain ⟨h3, h4⟩ := b.scan h.2.2
    have e : dl ⟨3 + k, 0⟩ = 1 := by have := h.1; unfold dl; rw [if_neg (by simp; omega), if_pos (by simp; omega)]
    refine ⟨by simp [marks, h1, h3, e], fun j hj => ?_⟩
    have := h2 j hj
    simp only [marks, List.drop_append, dsum_append, List.length_append]
    rcases Nat.eq_zero_or_pos (j - a.marks.length) with h0 | h0
    · have e4 : j - (a.marks.length + b.marks.length) = 0 := by omega
      rw [h0, e4]; simp [h3, e]; omega
    · have := h4 _ h0
      have e3 : 0 ≤ dsum ([(⟨3 + k, 0⟩ : Mark)].drop (j - (a.marks.length + b.marks.length))) := by
        rcases Nat.eq_zero_or_pos (j - (a.marks.length + b.marks.length)) with h | h
        · rw [h]; simp [e]
        · rw [List.drop_eq_nil_of_le (by simp; omega)]; simp
      omega
def Ilp (l : List Mark) (p : Nat) (s : S) : Prop := ∃ i : Nat, s.tm 0 = .v (.sl (l.map Mark.v)) ∧ s.tm 4 = .v (.int .i64 i) ∧ i < l.length ∧ p ≤ i ∧ s.tm 3 = .v (.int .i64 (1 + dsum (l.drop (i + 1))))
theorem lastPart_fn (pre : List Mark) (T : Tm) (hok : T.ok) (hl : (pre ++ T.marks).length ≤ 1048576) : FnZ Tryz.prog 124 [marksV (pre ++ T.marks)] (.int .i64 pre.length) := by
  obtain ⟨s1, s2⟩ := T.scan hok
  have hpos := T.marks_pos
  have d1 : dsum ((pre ++ T.marks).drop pre.length) = -1 := by simpa using s1
  have d2 : ∀ i, pre.length < i → 0 ≤ dsum ((pre ++ T.marks).drop i) := fun i hi => by
    rw [List.drop_append, List.drop_eq_nil_of_le (by omega), List.nil_append]; exact s2 _ (by omega)
  have hlen : pre.length < (pre ++ T.marks).length := by simp; omega
  generalize pre ++ T.marks = l at *
  generalize pre.length = p at *
  have w1 : IntKind.wrap .i64 ((l.length : Int) - 1) = ((l.length - 1 : Nat) : Int) := by rw [w64 (by omega) (by omega)]; omega
  refine FnZ_of (rs := [.tmp 2]) false Tryz.func124 rfl rfl rfl rfl (Nat.le_of_ble_eq_true rfl) ?_
  simp -dsimp [w1]
  refine twp_loop (Ilp l p) (fun s => natOf (s.tm 4)) ?_ ?_
  · refine ⟨l.length - 1, by simp -dsimp, by simp -dsimp, by omega, by omega, ?_⟩
    have e : l.drop (l.length - 1 + 1) = [] := List.drop_eq_nil_of_le (by omega)
    rw [e]; simp -dsimp
  · rintro s ⟨i, t0, t4, hi, hpi, t3⟩
    have hget : (l.map Mark.v)[i]? = some (l[i].v) := by simp [hi]
    have hd : dsum (l.drop i) = dl l[i] + dsum (l.drop (i + 1)) := by rw [drop_cons hi, dsum_cons]
    have habs := dsum_abs (l.drop (i + 1))
    rw [List.length_drop] at habs
    have hN0 := d2 (i + 1) (by omega)
    generalize hN : dsum (l.drop (i + 1)) = N at *
    have wn : IntKind.wrap .i64 (1 + N - 1) = N := by rw [w64 (by omega) (by omega)]; omega
    have wn' : IntKind.wrap .i64 N = N := w64 (by omega) (by omega)
    have wp : IntKind.wrap .i64 (1 + N + 1) = 1 + N + 1 := w64 (by omega) (by omega)
    have z1 : ¬ 1 + N = 0 := by omega
    have z2 : ¬ 1 + N + 1 = 0 := by omega
    have again : ∀ (s' : S) (x : Int), 0 < i → x = 1 + dsum (l.drop i) → s'.tm 0 = .v (.sl (l.map Mark.v)) → s'.tm 4 = .v (.int .i64 ((i - 1 : Nat) : Int)) → p ≤ i - 1 → s'.tm 3 = .v (.int .i64 x) → Ilp l p s' := fun s' x h0 hx a0 a4 hp a3 =>
      ⟨i - 1, a0, a4, by omega, hp, by rw [a3, hx, show i - 1 + 1 = i by omega]⟩
    have hmu : 0 < i → i - 1 < i := fun h => by omega
    have mins : dl l[i] = -1 → (N = 0 → i = p) ∧ (¬ N = 0 → p < i) := fun h => by
      constructor
      · intro h0
        by_cases hip : i = p
        · exact hip
        · have := d2 i (by omega); omega
      · intro h0
        by_cases hip : i = p
        · subst hip; omega
        · omega
    have plus : 0 ≤ dl l[i] → p < i := fun h => by
      by_cases hip : i = p
      · subst hip; omega
      · omega
    have wi : 0 < i → IntKind.wrap .i64 ((i : Int) - 1) = ((i - 1 : Nat) : Int) := fun h => by rw [w64 (by omega) (by omega)]; omega
    by_cases k01 : l[i].kind = 0 ∨ l[i].kind = 1
    · have hdl : dl l[i] = -1 := by unfold dl; rw [if_pos k01]
      obtain ⟨m1, m2⟩ := mins hdl
      by_cases hz : N = 0
      · have hip := m1 hz
        subst hip
        rcases k01 with k | k <;> simp -dsimp [t0, t3, t4, hi, hget, k, wn, wn', hz, show IntKind.wrap .i64 0 = 0 from rfl]
      · have hip := m2 hz
        have h0i : 0 < i := by omega
        have wi := wi h0i
        have hmu := hmu h0i
        rcases k01 with k | k
        · simp -dsimp [t0, t3, t4, hi, hget, k, wn, wn', hz, wi, hmu]
          exact again _ N h0i (by omega) (by simp -dsimp [t0]) (by simp -dsimp) (by omega) (by simp -dsimp)
        · simp -dsimp [t0, t3, t4, hi, hget, k, wn, wn', hz, wi, hmu]
          exact again _ N h0i (by omega) (by simp -dsimp [t0]) (by simp -dsimp) (by omega) (by simp -dsimp)
    have k0 := (not_or.1 k01).1
    have k1 := (not_or.1 k01).2
    by_cases k345 : l[i].kind = 3 ∨ l[i].kind = 4 ∨ l[i].kind = 5
    · have hdl : dl l[i] = 1 := by unfold dl; rw [if_neg k01, if_pos k345]
      have hip := plus (by omega)
      have h0i : 0 < i := by omega
      have wi := wi h0i
      have hmu := hmu h0i
      rcases k345 with k | k | k
      all_goals
        simp -dsimp [t0, t3, t4, hi, hget, k, wp, z2, wi, hmu]
        exact again _ (1 + N + 1) h0i (by omega) (by simp -dsimp [t0]) (by simp -dsimp) (by omega) (by simp -dsimp)
    · have hdl : dl l[i] = 0 := by unfold dl; rw [if_neg k01, if_neg k345]
      have hip := plus (by omega)
      have h0i : 0 < i := by omega
      have wi := wi h0i
      have hmu := hmu h0i
      have k3 := (not_or.1 k345).1
      have k4 := (not_or.1 (not_or.1 k345).2).1
      have k5 := (not_or.1 (not_or.1 k345).2).2
      simp -dsimp [t0, t3, t4, hi, hget, k0, k1, k3, k4, k5, z1, wi, hmu]
      exact again _ (1 + N) h0i (by omega) (by simp -dsimp [t0]) (by simp -dsimp) (by omega) (by simp -dsimp [t3])
def intOf : T → Int
  | .v (.int _ z) => z
  | _ => 0
@[simp] theorem intOf_int (k : IntKind) (z : Int) : intOf (.v (.int k z)) = z := rfl
def Ils (l : List Mark) (p e : Nat) (B : List Mark) (x : Nat) (s : S) : Prop := ∃ i : Nat, s.tm 0 = .v (.sl (l.map Mark.v)) ∧ s.tm 6 = .v (.int .i64 ((p : Int) + i - 1)) ∧ i ≤ B.length ∧ s.tm 5 = .v (.int .i64 (1 + dsum (B.drop i))) ∧ (x = 1 → i = 0)
theorem l2Starts_fn (pre rest : List Mark) (T : Tm) (hok : T.ok) (hl : (pre ++ T.marks ++ rest).length ≤ 1048576) :
    FnZ Tryz.prog 114 [marksV (pre ++ T.marks ++ rest), .int .i64 ((pre.length : Int) + T.marks.length - 1)] (.int .i64 pre.length) := by
  obtain ⟨s1, s2⟩ := T.scan hok
  have hpos := T.marks_pos
  have hk := T.kinds hok
  have hget : ∀ i, i < T.marks.length → ∃ m, T.marks[i]? = some m ∧ 0 ≤ m.kind ∧ m.kind ≤ 5 ∧ (pre ++ T.marks ++ rest)[pre.length + i]? = some m := fun i hi => by
    refine ⟨T.marks[i], List.getElem?_eq_getElem hi, (hk _ (List.getElem_mem _)).1, (hk _ (List.getElem_mem _)).2, ?_⟩
    rw [List.append_assoc, List.getElem?_append_right (by omega), List.getElem?_append_left (by omega)]
    rw [show pre.length + i - pre.length = i by omega, List.getElem?_eq_getElem hi]
  have hlen : pre.length + T.marks.length ≤ (pre ++ T.marks ++ rest).length := by simp
  generalize pre ++ T.marks ++ rest = l at *
  generalize pre.length = p at *
  generalize T.marks = B at *
  refine FnZ_of (rs := [.tmp 4]) false Tryz.func114 rfl rfl rfl rfl (Nat.le_of_ble_eq_true rfl) ?_
  simp -dsimp
  refine twp_loopC (Ils l p 0 B 0) (fun s => (intOf (s.tm 6) - p + 1).toNat) (Ils l p 0 B 1) ?_ ?_ ?_
  · refine ⟨B.length, by simp -dsimp, by simp -dsimp, by omega, ?_, by simp⟩
    rw [List.drop_length]; simp -dsimp
  · rintro s ⟨i, t0, t6, hi, t5, hx⟩
    by_cases hi0 : i = 0
    · subst hi0
      rw [List.drop_zero, s1] at t5
      simp -dsimp [t5]
      exact ⟨0, by simp -dsimp [t0], by simp -dsimp [t6], hi, by rw [List.drop_zero, s1]; simp -dsimp [t5], fun _ => rfl⟩
    have hN := s2 i (by omega)
    obtain ⟨m, hm1, hm2, hm3, hm4⟩ := hget (i - 1) (by omega)
    have hd : dsum (B.drop (i - 1)) = dl m + dsum (B.drop i) := by
      have hlt : i - 1 < B.length := by omega
      rw [drop_cons hlt, dsum_cons, show i - 1 + 1 = i by omega]
      rw [List.getElem?_eq_getElem hlt] at hm1
      cases hm1; rfl
    have habs := dsum_abs (B.drop i)
    rw [List.length_drop] at habs
    generalize hNN : dsum (B.drop i) = N at *
    have hz : 0 < 1 + N := by omega
    obtain ⟨q, hq⟩ : ∃ q : Nat, q = p + (i - 1) := ⟨_, rfl⟩
    have idx : ((p : Int) + i - 1) = (q : Int) := by omega
    rw [← hq] at hm4
    have wn : IntKind.wrap .i64 (1 + N - 1) = 1 + N - 1 := w64 (by omega) (by omega)
    have wn' : IntKind.wrap .i64 N = N := w64 (by omega) (by omega)
    have wp : IntKind.wrap .i64 (1 + N + 1) = 1 + N + 1 := w64 (by omega) (by omega)
    have wi : IntKind.wrap .i64 ((q : Int) - 1) = (p : Int) + (i - 1 : Nat) - 1 := by rw [w64 (by omega) (by omega)]; omega
    have again : ∀ (s' : S) (x : Int), x = 1 + dsum (B.drop (i - 1)) → s'.tm 0 = .v (.sl (l.map Mark.v)) → s'.tm 6 = .v (.int .i64 ((p : Int) + (i - 1 : Nat) - 1)) → s'.tm 5 = .v (.int .i64 x) → Ils l p 0 B 0 s' := fun s' x hx a0 a6 a5 =>
      ⟨i - 1, a0, a6, by omega, by rw [a5, hx], by simp⟩
    rw [idx] at t6
    have hmu : ((p : Int) + (i - 1 : Nat) - 1 - p + 1).toNat < ((q : Int) - p + 1).toNat := by omega
    by_cases k1 : m.kind ≤ 1
    · have hdl : dl m = -1 := by unfold dl; rw [if_pos (by omega)]
      simp -dsimp [t0, t5, t6, hz, hm4, k1, wn, wi]
      refine ⟨again _ (1 + N - 1) (by omega) (by simp -dsimp [t0]) (by simp -dsimp) (by simp -dsimp [t5]), ?_⟩
      omega
    · have k2 : ¬ m.kind ≤ 1 := k1
      by_cases k3 : 2 < m.kind
      · have hdl : dl m = 1 := by unfold dl; rw [if_neg (by omega), if_pos (by omega)]
        simp -dsimp [t0, t5, t6, hz, hm4, k2, k3, wp, wi]
        refine ⟨again _ (1 + N + 1) (by omega) (by simp -dsimp [t0]) (by simp -dsimp) (by simp -dsimp [t5]), ?_⟩
        omega
      · have hdl : dl m = 0 := by unfold dl; rw [if_neg (by omega), if_neg (by omega)]
        simp -dsimp [t0, t5, t6, hz, hm4, k2, k3, wi]
        refine ⟨again _ (1 + N) (by omega) (by simp -dsimp [t0]) (by simp -dsimp) (by simp -dsimp [t5]), ?_⟩
        omega
  · rintro s ⟨i, t0, t6, hi, t5, hx⟩
    have := hx rfl
    subst this
    have w : IntKind.wrap .i64 ((p : Int) + (0 : Nat) - 1 + 1) = p := by rw [w64 (by omega) (by omega)]; omega
    simp -dsimp [t6]
    exact w64 (by omega) (by omega)
/-! The texts. -/
def Ihe (l : List Mark) (st : List UInt8) (ks : List Int) (m : Mark) (s : S) : Prop := ∃ i : Nat, s.tm 0 = .v (.sl (l.map Mark.v)) ∧ s.tm 5 = .v (.str st) ∧ s.tm 10 = .v (.sl (ks.map (V.int .i64))) ∧ s.tm 11 = .v (.int .i64 ks.length) ∧ s.tm 12 = .v (.int .i64 i) ∧ i ≤ ks.length ∧ m.kind ∉ ks.take i
theorem held_fn (l : List Mark) (st : List UInt8) (pre : List Mark) (m : Mark) (ks : List Int) (hlast : l = pre ++ [m]) (h : FnZ Tryz.prog 97 [marksV l] (.str st)) (hs : st.length ≤ 1000000000) (hl : l.length ≤ 1048576) (hks : ks.length ≤ 10) :
    FnZ Tryz.prog 123 [marksV l, .sl (ks.map (V.int .i64))] (.str (par (decide (m.kind ∈ ks)) st)) := by
  have hlen : l.length = pre.length + 1 := by rw [hlast]; simp
  have hget : l[pre.length]? = some m := by rw [hlast]; simp
  have w1 : IntKind.wrap .i64 ((l.length : Int) - 1) = (pre.length : Int) := by rw [w64 (by omega) (by omega)]; omega
  have b1 : (1 : Int) + st.length ≤ 9223372036854775807 := by omega
  have b2 : (st.length : Int) + 1 + 1 ≤ 9223372036854775807 := by omega
  generalize pre.length = n at *
  refine FnZ_of (rs := [.tmp 4]) false Tryz.func123 rfl rfl rfl rfl (Nat.le_of_ble_eq_true rfl) ?_
  simp -dsimp
  refine call_ h (by simp -dsimp) ?_
  simp -dsimp
  refine twp_loopC (Ihe l st ks m) (fun s => ks.length - natOf (s.tm 12))
    (fun s => s.tm 5 = .v (.str st) ∧ m.kind ∉ ks) ?_ ?_ ?_
  · exact ⟨0, by simp -dsimp, by simp -dsimp, by simp -dsimp, by simp -dsimp, by simp -dsimp, by omega, by simp⟩
  · rintro s ⟨i, t0, t5, t10, t11, t12, hi, hn⟩
    by_cases hlt : i < ks.length
    case neg =>
      have : i = ks.length := by omega
      subst this
      rw [List.take_length] at hn
      simp -dsimp [t11, t12]
      exact ⟨by simp -dsimp [t5], hn⟩
    have hk : (ks.map (V.int .i64))[i]? = some (.int .i64 ks[i]) := by simp [hlt]
    have wi : IntKind.wrap .i64 ((i : Int) + 1) = ((i + 1 : Nat) : Int) := by rw [w64 (by omega) (by omega)]; omega
    have hmu : ks.length - (i + 1) < ks.length - i := by omega
    by_cases he : m.kind = ks[i]
    · have hin : m.kind ∈ ks := by rw [he]; exact List.getElem_mem _
      have he' : (m.kind = ks[i]) = True := eq_true he
      simp -dsimp [t0, t5, t10, t11, t12, hlt, hk, w1, hget, he', par, hin, b1, b2]
    · have hn' : m.kind ∉ ks.take (i + 1) := by
        rw [List.take_succ_eq_append_getElem hlt, List.mem_append, List.mem_singleton]
        exact not_or.2 ⟨hn, he⟩
      simp -dsimp [t0, t5, t10, t11, t12, hlt, hk, w1, hget, he, wi, hmu]
      exact ⟨i + 1, by simp -dsimp [t0], by simp -dsimp [t5], by simp -dsimp [t10], by simp -dsimp [t11], by simp -dsimp, by omega, hn'⟩
  · rintro s ⟨t5, hn⟩
    simp -dsimp [t5, par, hn]
end TL
