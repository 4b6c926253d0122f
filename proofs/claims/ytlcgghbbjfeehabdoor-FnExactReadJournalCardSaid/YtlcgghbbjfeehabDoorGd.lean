/- TL: parts TlFactsQ, FnsQ1, FnsQ2, FnsQ7, FnsQ8, FnsQT, FnsQR1. -/
import Derived.Test.YtlcgghbbjfeehabDoorGc
import Derived.Test.YtlcgghbbjfeehabDoorChecked
/- Facts about the types of this seat. -/
namespace TL
open Go Go.Proofs
@[simp] theorem sz_1 : sz Tryd.prog 1 = some 1 := by kernel_rfl
@[simp] theorem bytes_1 : bytes Tryd.prog 1 = some 8 := by kernel_rfl
@[simp] theorem szz_1 : szz Tryd.prog 1 = some 1 := by kernel_rfl
@[simp] theorem isAg_1 : isAg Tryd.prog 1 = some false := by kernel_rfl
@[simp] theorem zeroC_1 : zeroC Tryd.prog 1 = some [.v .any] := by kernel_rfl
@[simp] theorem sz_2 : sz Tryd.prog 2 = some 1 := by kernel_rfl
@[simp] theorem bytes_2 : bytes Tryd.prog 2 = some 8 := by kernel_rfl
@[simp] theorem szz_2 : szz Tryd.prog 2 = some 1 := by kernel_rfl
@[simp] theorem isAg_2 : isAg Tryd.prog 2 = some false := by kernel_rfl
@[simp] theorem intK_2 : intK Tryd.prog 2 = some .i64 := by kernel_rfl
@[simp] theorem zeroC_2 : zeroC Tryd.prog 2 = some [.v (.int .i64 0)] := by kernel_rfl
@[simp] theorem sz_3 : sz Tryd.prog 3 = some 1 := by kernel_rfl
@[simp] theorem bytes_3 : bytes Tryd.prog 3 = some 8 := by kernel_rfl
@[simp] theorem szz_3 : szz Tryd.prog 3 = some 1 := by kernel_rfl
@[simp] theorem isAg_3 : isAg Tryd.prog 3 = some false := by kernel_rfl
@[simp] theorem intK_3 : intK Tryd.prog 3 = some .i64 := by kernel_rfl
@[simp] theorem zeroC_3 : zeroC Tryd.prog 3 = some [.v (.int .i64 0)] := by kernel_rfl
@[simp] theorem sz_4 : sz Tryd.prog 4 = some 1 := by kernel_rfl
@[simp] theorem bytes_4 : bytes Tryd.prog 4 = some 1 := by kernel_rfl
@[simp] theorem szz_4 : szz Tryd.prog 4 = some 1 := by kernel_rfl
@[simp] theorem isAg_4 : isAg Tryd.prog 4 = some false := by kernel_rfl
@[simp] theorem isBool_4 : isBool Tryd.prog 4 = some true := by kernel_rfl
@[simp] theorem zeroC_4 : zeroC Tryd.prog 4 = some [.v (.bool false)] := by kernel_rfl
@[simp] theorem sz_5 : sz Tryd.prog 5 = some 1 := by kernel_rfl
@[simp] theorem bytes_5 : bytes Tryd.prog 5 = some 1 := by kernel_rfl
@[simp] theorem szz_5 : szz Tryd.prog 5 = some 1 := by kernel_rfl
@[simp] theorem isAg_5 : isAg Tryd.prog 5 = some false := by kernel_rfl
@[simp] theorem intK_5 : intK Tryd.prog 5 = some .u8 := by kernel_rfl
@[simp] theorem zeroC_5 : zeroC Tryd.prog 5 = some [.v (.int .u8 0)] := by kernel_rfl
@[simp] theorem sz_9 : sz Tryd.prog 9 = some 1 := by kernel_rfl
@[simp] theorem bytes_9 : bytes Tryd.prog 9 = some 16 := by kernel_rfl
@[simp] theorem szz_9 : szz Tryd.prog 9 = some 1 := by kernel_rfl
@[simp] theorem isAg_9 : isAg Tryd.prog 9 = some false := by kernel_rfl
@[simp] theorem isStr_9 : isStr Tryd.prog 9 = some true := by kernel_rfl
@[simp] theorem zeroC_9 : zeroC Tryd.prog 9 = some [.v (.str [])] := by kernel_rfl
@[simp] theorem sz_12 : sz Tryd.prog 12 = some 1 := by kernel_rfl
@[simp] theorem bytes_12 : bytes Tryd.prog 12 = some 8 := by kernel_rfl
@[simp] theorem szz_12 : szz Tryd.prog 12 = some 1 := by kernel_rfl
@[simp] theorem isAg_12 : isAg Tryd.prog 12 = some false := by kernel_rfl
@[simp] theorem intK_12 : intK Tryd.prog 12 = some .u64 := by kernel_rfl
@[simp] theorem zeroC_12 : zeroC Tryd.prog 12 = some [.v (.int .u64 0)] := by kernel_rfl
@[simp] theorem sz_21 : sz Tryd.prog 21 = some 1 := by kernel_rfl
@[simp] theorem bytes_21 : bytes Tryd.prog 21 = some 4 := by kernel_rfl
@[simp] theorem szz_21 : szz Tryd.prog 21 = some 1 := by kernel_rfl
@[simp] theorem isAg_21 : isAg Tryd.prog 21 = some false := by kernel_rfl
@[simp] theorem intK_21 : intK Tryd.prog 21 = some .i32 := by kernel_rfl
@[simp] theorem zeroC_21 : zeroC Tryd.prog 21 = some [.v (.int .i32 0)] := by kernel_rfl
@[simp] theorem sz_22 : sz Tryd.prog 22 = some 1 := by kernel_rfl
@[simp] theorem bytes_22 : bytes Tryd.prog 22 = some 24 := by kernel_rfl
@[simp] theorem szz_22 : szz Tryd.prog 22 = some 1 := by kernel_rfl
@[simp] theorem isAg_22 : isAg Tryd.prog 22 = some false := by kernel_rfl
@[simp] theorem elT_22 : elT Tryd.prog 22 = some 36 := by kernel_rfl
@[simp] theorem isStr_22 : isStr Tryd.prog 22 = some false := by kernel_rfl
@[simp] theorem zeroC_22 : zeroC Tryd.prog 22 = some [.nil] := by kernel_rfl
@[simp] theorem sz_24 : sz Tryd.prog 24 = some 1 := by kernel_rfl
@[simp] theorem bytes_24 : bytes Tryd.prog 24 = some 8 := by kernel_rfl
@[simp] theorem szz_24 : szz Tryd.prog 24 = some 1 := by kernel_rfl
@[simp] theorem isAg_24 : isAg Tryd.prog 24 = some false := by kernel_rfl
@[simp] theorem zeroC_24 : zeroC Tryd.prog 24 = some [.v .any] := by kernel_rfl
@[simp] theorem sz_25 : sz Tryd.prog 25 = some 1 := by kernel_rfl
@[simp] theorem bytes_25 : bytes Tryd.prog 25 = some 8 := by kernel_rfl
@[simp] theorem szz_25 : szz Tryd.prog 25 = some 1 := by kernel_rfl
@[simp] theorem isAg_25 : isAg Tryd.prog 25 = some false := by kernel_rfl
@[simp] theorem zeroC_25 : zeroC Tryd.prog 25 = some [.v .any] := by kernel_rfl
@[simp] theorem sz_26 : sz Tryd.prog 26 = some 1 := by kernel_rfl
@[simp] theorem bytes_26 : bytes Tryd.prog 26 = some 8 := by kernel_rfl
@[simp] theorem szz_26 : szz Tryd.prog 26 = some 1 := by kernel_rfl
@[simp] theorem isAg_26 : isAg Tryd.prog 26 = some false := by kernel_rfl
@[simp] theorem zeroC_26 : zeroC Tryd.prog 26 = some [.v .any] := by kernel_rfl
@[simp] theorem sz_27 : sz Tryd.prog 27 = some 1 := by kernel_rfl
@[simp] theorem bytes_27 : bytes Tryd.prog 27 = some 8 := by kernel_rfl
@[simp] theorem szz_27 : szz Tryd.prog 27 = some 1 := by kernel_rfl
@[simp] theorem isAg_27 : isAg Tryd.prog 27 = some false := by kernel_rfl
@[simp] theorem zeroC_27 : zeroC Tryd.prog 27 = some [.v .any] := by kernel_rfl
@[simp] theorem sz_28 : sz Tryd.prog 28 = some 1 := by kernel_rfl
@[simp] theorem bytes_28 : bytes Tryd.prog 28 = some 24 := by kernel_rfl
@[simp] theorem szz_28 : szz Tryd.prog 28 = some 1 := by kernel_rfl
@[simp] theorem isAg_28 : isAg Tryd.prog 28 = some false := by kernel_rfl
@[simp] theorem elT_28 : elT Tryd.prog 28 = some 48 := by kernel_rfl
@[simp] theorem isStr_28 : isStr Tryd.prog 28 = some false := by kernel_rfl
@[simp] theorem zeroC_28 : zeroC Tryd.prog 28 = some [.nil] := by kernel_rfl
@[simp] theorem sz_29 : sz Tryd.prog 29 = some 2 := by kernel_rfl
@[simp] theorem bytes_29 : bytes Tryd.prog 29 = some 32 := by kernel_rfl
@[simp] theorem szz_29 : szz Tryd.prog 29 = some 2 := by kernel_rfl
@[simp] theorem isAg_29 : isAg Tryd.prog 29 = some true := by kernel_rfl
@[simp] theorem zeroC_29 : zeroC Tryd.prog 29 = some [.v (.int .i64 0), .nil] := by kernel_rfl
@[simp] theorem fieldsOk_29 : fieldsOk Tryd.prog 29 = true := by kernel_rfl
@[simp] theorem fo_29_0 : fo Tryd.prog 29 0 = some 0 := by kernel_rfl
@[simp] theorem fld_29_0 : fld Tryd.prog 29 0 = some (3, 0) := by kernel_rfl
@[simp] theorem fsz_29_0 : fsz Tryd.prog 29 0 = some 1 := by kernel_rfl
@[simp] theorem fo_29_1 : fo Tryd.prog 29 1 = some 1 := by kernel_rfl
@[simp] theorem fld_29_1 : fld Tryd.prog 29 1 = some (28, 1) := by kernel_rfl
@[simp] theorem fsz_29_1 : fsz Tryd.prog 29 1 = some 1 := by kernel_rfl
@[simp] theorem sz_30 : sz Tryd.prog 30 = some 2 := by kernel_rfl
@[simp] theorem bytes_30 : bytes Tryd.prog 30 = some 32 := by kernel_rfl
@[simp] theorem szz_30 : szz Tryd.prog 30 = some 2 := by kernel_rfl
@[simp] theorem isAg_30 : isAg Tryd.prog 30 = some true := by kernel_rfl
@[simp] theorem zeroC_30 : zeroC Tryd.prog 30 = some [.v (.int .i64 0), .nil] := by kernel_rfl
@[simp] theorem fieldsOk_30 : fieldsOk Tryd.prog 30 = true := by kernel_rfl
@[simp] theorem fo_30_0 : fo Tryd.prog 30 0 = some 0 := by kernel_rfl
@[simp] theorem fld_30_0 : fld Tryd.prog 30 0 = some (3, 0) := by kernel_rfl
@[simp] theorem fsz_30_0 : fsz Tryd.prog 30 0 = some 1 := by kernel_rfl
@[simp] theorem fo_30_1 : fo Tryd.prog 30 1 = some 1 := by kernel_rfl
@[simp] theorem fld_30_1 : fld Tryd.prog 30 1 = some (28, 1) := by kernel_rfl
@[simp] theorem fsz_30_1 : fsz Tryd.prog 30 1 = some 1 := by kernel_rfl
@[simp] theorem sz_32 : sz Tryd.prog 32 = some 1 := by kernel_rfl
@[simp] theorem bytes_32 : bytes Tryd.prog 32 = some 8 := by kernel_rfl
@[simp] theorem szz_32 : szz Tryd.prog 32 = some 1 := by kernel_rfl
@[simp] theorem isAg_32 : isAg Tryd.prog 32 = some false := by kernel_rfl
@[simp] theorem zeroC_32 : zeroC Tryd.prog 32 = some [.v .any] := by kernel_rfl
@[simp] theorem sz_33 : sz Tryd.prog 33 = some 1 := by kernel_rfl
@[simp] theorem bytes_33 : bytes Tryd.prog 33 = some 8 := by kernel_rfl
@[simp] theorem szz_33 : szz Tryd.prog 33 = some 1 := by kernel_rfl
@[simp] theorem isAg_33 : isAg Tryd.prog 33 = some false := by kernel_rfl
@[simp] theorem zeroC_33 : zeroC Tryd.prog 33 = some [.v .any] := by kernel_rfl
@[simp] theorem sz_34 : sz Tryd.prog 34 = some 1 := by kernel_rfl
@[simp] theorem bytes_34 : bytes Tryd.prog 34 = some 8 := by kernel_rfl
@[simp] theorem szz_34 : szz Tryd.prog 34 = some 1 := by kernel_rfl
@[simp] theorem isAg_34 : isAg Tryd.prog 34 = some false := by kernel_rfl
@[simp] theorem zeroC_34 : zeroC Tryd.prog 34 = some [.v .any] := by kernel_rfl
@[simp] theorem sz_35 : sz Tryd.prog 35 = some 3 := by kernel_rfl
@[simp] theorem bytes_35 : bytes Tryd.prog 35 = some 32 := by kernel_rfl
@[simp] theorem szz_35 : szz Tryd.prog 35 = some 3 := by kernel_rfl
@[simp] theorem isAg_35 : isAg Tryd.prog 35 = some true := by kernel_rfl
@[simp] theorem zeroC_35 : zeroC Tryd.prog 35 = some [.v (.int .i64 0), .v (.int .i64 0), .v (.str [])] := by kernel_rfl
@[simp] theorem fieldsOk_35 : fieldsOk Tryd.prog 35 = true := by kernel_rfl
@[simp] theorem eqKinds_35 : eqKinds Tryd.prog 35 = some [1, 1, 2] := by kernel_rfl
@[simp] theorem fo_35_0 : fo Tryd.prog 35 0 = some 0 := by kernel_rfl
@[simp] theorem fld_35_0 : fld Tryd.prog 35 0 = some (3, 0) := by kernel_rfl
@[simp] theorem fsz_35_0 : fsz Tryd.prog 35 0 = some 1 := by kernel_rfl
@[simp] theorem fo_35_1 : fo Tryd.prog 35 1 = some 1 := by kernel_rfl
@[simp] theorem fld_35_1 : fld Tryd.prog 35 1 = some (3, 1) := by kernel_rfl
@[simp] theorem fsz_35_1 : fsz Tryd.prog 35 1 = some 1 := by kernel_rfl
@[simp] theorem fo_35_2 : fo Tryd.prog 35 2 = some 2 := by kernel_rfl
@[simp] theorem fld_35_2 : fld Tryd.prog 35 2 = some (9, 2) := by kernel_rfl
@[simp] theorem fsz_35_2 : fsz Tryd.prog 35 2 = some 1 := by kernel_rfl
@[simp] theorem sz_36 : sz Tryd.prog 36 = some 3 := by kernel_rfl
@[simp] theorem bytes_36 : bytes Tryd.prog 36 = some 32 := by kernel_rfl
@[simp] theorem szz_36 : szz Tryd.prog 36 = some 3 := by kernel_rfl
@[simp] theorem isAg_36 : isAg Tryd.prog 36 = some true := by kernel_rfl
@[simp] theorem zeroC_36 : zeroC Tryd.prog 36 = some [.v (.int .i64 0), .v (.int .i64 0), .v (.str [])] := by kernel_rfl
@[simp] theorem fieldsOk_36 : fieldsOk Tryd.prog 36 = true := by kernel_rfl
@[simp] theorem eqKinds_36 : eqKinds Tryd.prog 36 = some [1, 1, 2] := by kernel_rfl
@[simp] theorem fo_36_0 : fo Tryd.prog 36 0 = some 0 := by kernel_rfl
@[simp] theorem fld_36_0 : fld Tryd.prog 36 0 = some (3, 0) := by kernel_rfl
@[simp] theorem fsz_36_0 : fsz Tryd.prog 36 0 = some 1 := by kernel_rfl
@[simp] theorem fo_36_1 : fo Tryd.prog 36 1 = some 1 := by kernel_rfl
@[simp] theorem fld_36_1 : fld Tryd.prog 36 1 = some (3, 1) := by kernel_rfl
@[simp] theorem fsz_36_1 : fsz Tryd.prog 36 1 = some 1 := by kernel_rfl
@[simp] theorem fo_36_2 : fo Tryd.prog 36 2 = some 2 := by kernel_rfl
@[simp] theorem fld_36_2 : fld Tryd.prog 36 2 = some (9, 2) := by kernel_rfl
@[simp] theorem fsz_36_2 : fsz Tryd.prog 36 2 = some 1 := by kernel_rfl
@[simp] theorem sz_38 : sz Tryd.prog 38 = some 1 := by kernel_rfl
@[simp] theorem bytes_38 : bytes Tryd.prog 38 = some 8 := by kernel_rfl
@[simp] theorem szz_38 : szz Tryd.prog 38 = some 1 := by kernel_rfl
@[simp] theorem isAg_38 : isAg Tryd.prog 38 = some false := by kernel_rfl
@[simp] theorem zeroC_38 : zeroC Tryd.prog 38 = some [.v .any] := by kernel_rfl
@[simp] theorem sz_40 : sz Tryd.prog 40 = some 1 := by kernel_rfl
@[simp] theorem bytes_40 : bytes Tryd.prog 40 = some 8 := by kernel_rfl
@[simp] theorem szz_40 : szz Tryd.prog 40 = some 1 := by kernel_rfl
@[simp] theorem isAg_40 : isAg Tryd.prog 40 = some false := by kernel_rfl
@[simp] theorem zeroC_40 : zeroC Tryd.prog 40 = some [.v .any] := by kernel_rfl
@[simp] theorem sz_41 : sz Tryd.prog 41 = some 1 := by kernel_rfl
@[simp] theorem bytes_41 : bytes Tryd.prog 41 = some 8 := by kernel_rfl
@[simp] theorem szz_41 : szz Tryd.prog 41 = some 1 := by kernel_rfl
@[simp] theorem isAg_41 : isAg Tryd.prog 41 = some false := by kernel_rfl
@[simp] theorem zeroC_41 : zeroC Tryd.prog 41 = some [.v .any] := by kernel_rfl
@[simp] theorem sz_42 : sz Tryd.prog 42 = some 1 := by kernel_rfl
@[simp] theorem bytes_42 : bytes Tryd.prog 42 = some 8 := by kernel_rfl
@[simp] theorem szz_42 : szz Tryd.prog 42 = some 1 := by kernel_rfl
@[simp] theorem isAg_42 : isAg Tryd.prog 42 = some false := by kernel_rfl
@[simp] theorem zeroC_42 : zeroC Tryd.prog 42 = some [.v .any] := by kernel_rfl
@[simp] theorem sz_43 : sz Tryd.prog 43 = some 1 := by kernel_rfl
@[simp] theorem bytes_43 : bytes Tryd.prog 43 = some 24 := by kernel_rfl
@[simp] theorem szz_43 : szz Tryd.prog 43 = some 1 := by kernel_rfl
@[simp] theorem isAg_43 : isAg Tryd.prog 43 = some false := by kernel_rfl
@[simp] theorem elT_43 : elT Tryd.prog 43 = some 9 := by kernel_rfl
@[simp] theorem isStr_43 : isStr Tryd.prog 43 = some false := by kernel_rfl
@[simp] theorem zeroC_43 : zeroC Tryd.prog 43 = some [.nil] := by kernel_rfl
@[simp] theorem sz_44 : sz Tryd.prog 44 = some 1 := by kernel_rfl
@[simp] theorem bytes_44 : bytes Tryd.prog 44 = some 8 := by kernel_rfl
@[simp] theorem szz_44 : szz Tryd.prog 44 = some 1 := by kernel_rfl
@[simp] theorem isAg_44 : isAg Tryd.prog 44 = some false := by kernel_rfl
@[simp] theorem zeroC_44 : zeroC Tryd.prog 44 = some [.v .any] := by kernel_rfl
@[simp] theorem sz_45 : sz Tryd.prog 45 = some 1 := by kernel_rfl
@[simp] theorem bytes_45 : bytes Tryd.prog 45 = some 8 := by kernel_rfl
@[simp] theorem szz_45 : szz Tryd.prog 45 = some 1 := by kernel_rfl
@[simp] theorem isAg_45 : isAg Tryd.prog 45 = some false := by kernel_rfl
@[simp] theorem zeroC_45 : zeroC Tryd.prog 45 = some [.v .any] := by kernel_rfl
@[simp] theorem sz_46 : sz Tryd.prog 46 = some 1 := by kernel_rfl
@[simp] theorem bytes_46 : bytes Tryd.prog 46 = some 24 := by kernel_rfl
@[simp] theorem szz_46 : szz Tryd.prog 46 = some 1 := by kernel_rfl
@[simp] theorem isAg_46 : isAg Tryd.prog 46 = some false := by kernel_rfl
@[simp] theorem elT_46 : elT Tryd.prog 46 = some 86 := by kernel_rfl
@[simp] theorem isStr_46 : isStr Tryd.prog 46 = some false := by kernel_rfl
@[simp] theorem zeroC_46 : zeroC Tryd.prog 46 = some [.nil] := by kernel_rfl
@[simp] theorem sz_47 : sz Tryd.prog 47 = some 2 := by kernel_rfl
@[simp] theorem bytes_47 : bytes Tryd.prog 47 = some 32 := by kernel_rfl
@[simp] theorem szz_47 : szz Tryd.prog 47 = some 2 := by kernel_rfl
@[simp] theorem isAg_47 : isAg Tryd.prog 47 = some true := by kernel_rfl
@[simp] theorem zeroC_47 : zeroC Tryd.prog 47 = some [.v (.int .i64 0), .nil] := by kernel_rfl
@[simp] theorem fieldsOk_47 : fieldsOk Tryd.prog 47 = true := by kernel_rfl
@[simp] theorem fo_47_0 : fo Tryd.prog 47 0 = some 0 := by kernel_rfl
@[simp] theorem fld_47_0 : fld Tryd.prog 47 0 = some (3, 0) := by kernel_rfl
@[simp] theorem fsz_47_0 : fsz Tryd.prog 47 0 = some 1 := by kernel_rfl
@[simp] theorem fo_47_1 : fo Tryd.prog 47 1 = some 1 := by kernel_rfl
@[simp] theorem fld_47_1 : fld Tryd.prog 47 1 = some (46, 1) := by kernel_rfl
@[simp] theorem fsz_47_1 : fsz Tryd.prog 47 1 = some 1 := by kernel_rfl
@[simp] theorem sz_48 : sz Tryd.prog 48 = some 2 := by kernel_rfl
@[simp] theorem bytes_48 : bytes Tryd.prog 48 = some 32 := by kernel_rfl
@[simp] theorem szz_48 : szz Tryd.prog 48 = some 2 := by kernel_rfl
@[simp] theorem isAg_48 : isAg Tryd.prog 48 = some true := by kernel_rfl
@[simp] theorem zeroC_48 : zeroC Tryd.prog 48 = some [.v (.int .i64 0), .nil] := by kernel_rfl
@[simp] theorem fieldsOk_48 : fieldsOk Tryd.prog 48 = true := by kernel_rfl
@[simp] theorem fo_48_0 : fo Tryd.prog 48 0 = some 0 := by kernel_rfl
@[simp] theorem fld_48_0 : fld Tryd.prog 48 0 = some (3, 0) := by kernel_rfl
@[simp] theorem fsz_48_0 : fsz Tryd.prog 48 0 = some 1 := by kernel_rfl
@[simp] theorem fo_48_1 : fo Tryd.prog 48 1 = some 1 := by kernel_rfl
@[simp] theorem fld_48_1 : fld Tryd.prog 48 1 = some (46, 1) := by kernel_rfl
@[simp] theorem fsz_48_1 : fsz Tryd.prog 48 1 = some 1 := by kernel_rfl
@[simp] theorem sz_50 : sz Tryd.prog 50 = some 1 := by kernel_rfl
@[simp] theorem bytes_50 : bytes Tryd.prog 50 = some 8 := by kernel_rfl
@[simp] theorem szz_50 : szz Tryd.prog 50 = some 1 := by kernel_rfl
@[simp] theorem isAg_50 : isAg Tryd.prog 50 = some false := by kernel_rfl
@[simp] theorem zeroC_50 : zeroC Tryd.prog 50 = some [.v .any] := by kernel_rfl
@[simp] theorem sz_51 : sz Tryd.prog 51 = some 1 := by kernel_rfl
@[simp] theorem bytes_51 : bytes Tryd.prog 51 = some 8 := by kernel_rfl
@[simp] theorem szz_51 : szz Tryd.prog 51 = some 1 := by kernel_rfl
@[simp] theorem isAg_51 : isAg Tryd.prog 51 = some false := by kernel_rfl
@[simp] theorem zeroC_51 : zeroC Tryd.prog 51 = some [.v .any] := by kernel_rfl
@[simp] theorem sz_52 : sz Tryd.prog 52 = some 1 := by kernel_rfl
@[simp] theorem bytes_52 : bytes Tryd.prog 52 = some 8 := by kernel_rfl
@[simp] theorem szz_52 : szz Tryd.prog 52 = some 1 := by kernel_rfl
@[simp] theorem isAg_52 : isAg Tryd.prog 52 = some false := by kernel_rfl
@[simp] theorem zeroC_52 : zeroC Tryd.prog 52 = some [.v .any] := by kernel_rfl
@[simp] theorem sz_53 : sz Tryd.prog 53 = some 1 := by kernel_rfl
@[simp] theorem bytes_53 : bytes Tryd.prog 53 = some 8 := by kernel_rfl
@[simp] theorem szz_53 : szz Tryd.prog 53 = some 1 := by kernel_rfl
@[simp] theorem isAg_53 : isAg Tryd.prog 53 = some false := by kernel_rfl
@[simp] theorem zeroC_53 : zeroC Tryd.prog 53 = some [.v .any] := by kernel_rfl
@[simp] theorem sz_54 : sz Tryd.prog 54 = some 1 := by kernel_rfl
@[simp] theorem bytes_54 : bytes Tryd.prog 54 = some 8 := by kernel_rfl
@[simp] theorem szz_54 : szz Tryd.prog 54 = some 1 := by kernel_rfl
@[simp] theorem isAg_54 : isAg Tryd.prog 54 = some false := by kernel_rfl
@[simp] theorem zeroC_54 : zeroC Tryd.prog 54 = some [.v .any] := by kernel_rfl
@[simp] theorem sz_55 : sz Tryd.prog 55 = some 1 := by kernel_rfl
@[simp] theorem bytes_55 : bytes Tryd.prog 55 = some 8 := by kernel_rfl
@[simp] theorem szz_55 : szz Tryd.prog 55 = some 1 := by kernel_rfl
@[simp] theorem isAg_55 : isAg Tryd.prog 55 = some false := by kernel_rfl
@[simp] theorem zeroC_55 : zeroC Tryd.prog 55 = some [.v .any] := by kernel_rfl
@[simp] theorem sz_59 : sz Tryd.prog 59 = some 1 := by kernel_rfl
@[simp] theorem bytes_59 : bytes Tryd.prog 59 = some 8 := by kernel_rfl
@[simp] theorem szz_59 : szz Tryd.prog 59 = some 1 := by kernel_rfl
@[simp] theorem isAg_59 : isAg Tryd.prog 59 = some false := by kernel_rfl
@[simp] theorem zeroC_59 : zeroC Tryd.prog 59 = some [.v .any] := by kernel_rfl
@[simp] theorem sz_60 : sz Tryd.prog 60 = some 1 := by kernel_rfl
@[simp] theorem bytes_60 : bytes Tryd.prog 60 = some 24 := by kernel_rfl
@[simp] theorem szz_60 : szz Tryd.prog 60 = some 1 := by kernel_rfl
@[simp] theorem isAg_60 : isAg Tryd.prog 60 = some false := by kernel_rfl
@[simp] theorem elT_60 : elT Tryd.prog 60 = some 5 := by kernel_rfl
@[simp] theorem isStr_60 : isStr Tryd.prog 60 = some false := by kernel_rfl
@[simp] theorem zeroC_60 : zeroC Tryd.prog 60 = some [.nil] := by kernel_rfl
@[simp] theorem sz_61 : sz Tryd.prog 61 = some 1 := by kernel_rfl
@[simp] theorem bytes_61 : bytes Tryd.prog 61 = some 8 := by kernel_rfl
@[simp] theorem szz_61 : szz Tryd.prog 61 = some 1 := by kernel_rfl
@[simp] theorem isAg_61 : isAg Tryd.prog 61 = some false := by kernel_rfl
@[simp] theorem zeroC_61 : zeroC Tryd.prog 61 = some [.v .any] := by kernel_rfl
@[simp] theorem sz_63 : sz Tryd.prog 63 = some 1 := by kernel_rfl
@[simp] theorem bytes_63 : bytes Tryd.prog 63 = some 8 := by kernel_rfl
@[simp] theorem szz_63 : szz Tryd.prog 63 = some 1 := by kernel_rfl
@[simp] theorem isAg_63 : isAg Tryd.prog 63 = some false := by kernel_rfl
@[simp] theorem zeroC_63 : zeroC Tryd.prog 63 = some [.v .any] := by kernel_rfl
@[simp] theorem sz_64 : sz Tryd.prog 64 = some 1 := by kernel_rfl
@[simp] theorem bytes_64 : bytes Tryd.prog 64 = some 8 := by kernel_rfl
@[simp] theorem szz_64 : szz Tryd.prog 64 = some 1 := by kernel_rfl
@[simp] theorem isAg_64 : isAg Tryd.prog 64 = some false := by kernel_rfl
@[simp] theorem zeroC_64 : zeroC Tryd.prog 64 = some [.v .any] := by kernel_rfl
@[simp] theorem sz_65 : sz Tryd.prog 65 = some 1 := by kernel_rfl
@[simp] theorem bytes_65 : bytes Tryd.prog 65 = some 8 := by kernel_rfl
@[simp] theorem szz_65 : szz Tryd.prog 65 = some 1 := by kernel_rfl
@[simp] theorem isAg_65 : isAg Tryd.prog 65 = some false := by kernel_rfl
@[simp] theorem zeroC_65 : zeroC Tryd.prog 65 = some [.v .any] := by kernel_rfl
@[simp] theorem sz_66 : sz Tryd.prog 66 = some 1 := by kernel_rfl
@[simp] theorem bytes_66 : bytes Tryd.prog 66 = some 8 := by kernel_rfl
@[simp] theorem szz_66 : szz Tryd.prog 66 = some 1 := by kernel_rfl
@[simp] theorem isAg_66 : isAg Tryd.prog 66 = some false := by kernel_rfl
@[simp] theorem zeroC_66 : zeroC Tryd.prog 66 = some [.v .any] := by kernel_rfl
@[simp] theorem sz_67 : sz Tryd.prog 67 = some 1 := by kernel_rfl
@[simp] theorem bytes_67 : bytes Tryd.prog 67 = some 8 := by kernel_rfl
@[simp] theorem szz_67 : szz Tryd.prog 67 = some 1 := by kernel_rfl
@[simp] theorem isAg_67 : isAg Tryd.prog 67 = some false := by kernel_rfl
@[simp] theorem zeroC_67 : zeroC Tryd.prog 67 = some [.v .any] := by kernel_rfl
@[simp] theorem sz_68 : sz Tryd.prog 68 = some 1 := by kernel_rfl
@[simp] theorem bytes_68 : bytes Tryd.prog 68 = some 8 := by kernel_rfl
@[simp] theorem szz_68 : szz Tryd.prog 68 = some 1 := by kernel_rfl
@[simp] theorem isAg_68 : isAg Tryd.prog 68 = some false := by kernel_rfl
@[simp] theorem zeroC_68 : zeroC Tryd.prog 68 = some [.v .any] := by kernel_rfl
@[simp] theorem sz_69 : sz Tryd.prog 69 = some 1 := by kernel_rfl
@[simp] theorem bytes_69 : bytes Tryd.prog 69 = some 8 := by kernel_rfl
@[simp] theorem szz_69 : szz Tryd.prog 69 = some 1 := by kernel_rfl
@[simp] theorem isAg_69 : isAg Tryd.prog 69 = some false := by kernel_rfl
@[simp] theorem zeroC_69 : zeroC Tryd.prog 69 = some [.v .any] := by kernel_rfl
@[simp] theorem sz_70 : sz Tryd.prog 70 = some 1 := by kernel_rfl
@[simp] theorem bytes_70 : bytes Tryd.prog 70 = some 8 := by kernel_rfl
@[simp] theorem szz_70 : szz Tryd.prog 70 = some 1 := by kernel_rfl
@[simp] theorem isAg_70 : isAg Tryd.prog 70 = some false := by kernel_rfl
@[simp] theorem zeroC_70 : zeroC Tryd.prog 70 = some [.v .any] := by kernel_rfl
@[simp] theorem sz_71 : sz Tryd.prog 71 = some 1 := by kernel_rfl
@[simp] theorem bytes_71 : bytes Tryd.prog 71 = some 8 := by kernel_rfl
@[simp] theorem szz_71 : szz Tryd.prog 71 = some 1 := by kernel_rfl
@[simp] theorem isAg_71 : isAg Tryd.prog 71 = some false := by kernel_rfl
@[simp] theorem zeroC_71 : zeroC Tryd.prog 71 = some [.v .any] := by kernel_rfl
@[simp] theorem sz_72 : sz Tryd.prog 72 = some 1 := by kernel_rfl
@[simp] theorem bytes_72 : bytes Tryd.prog 72 = some 8 := by kernel_rfl
@[simp] theorem szz_72 : szz Tryd.prog 72 = some 1 := by kernel_rfl
@[simp] theorem isAg_72 : isAg Tryd.prog 72 = some false := by kernel_rfl
@[simp] theorem zeroC_72 : zeroC Tryd.prog 72 = some [.v .any] := by kernel_rfl
@[simp] theorem sz_74 : sz Tryd.prog 74 = some 1 := by kernel_rfl
@[simp] theorem bytes_74 : bytes Tryd.prog 74 = some 8 := by kernel_rfl
@[simp] theorem szz_74 : szz Tryd.prog 74 = some 1 := by kernel_rfl
@[simp] theorem isAg_74 : isAg Tryd.prog 74 = some false := by kernel_rfl
@[simp] theorem zeroC_74 : zeroC Tryd.prog 74 = some [.v .any] := by kernel_rfl
@[simp] theorem sz_75 : sz Tryd.prog 75 = some 1 := by kernel_rfl
@[simp] theorem bytes_75 : bytes Tryd.prog 75 = some 8 := by kernel_rfl
@[simp] theorem szz_75 : szz Tryd.prog 75 = some 1 := by kernel_rfl
@[simp] theorem isAg_75 : isAg Tryd.prog 75 = some false := by kernel_rfl
@[simp] theorem zeroC_75 : zeroC Tryd.prog 75 = some [.v .any] := by kernel_rfl
@[simp] theorem sz_76 : sz Tryd.prog 76 = some 1 := by kernel_rfl
@[simp] theorem bytes_76 : bytes Tryd.prog 76 = some 8 := by kernel_rfl
@[simp] theorem szz_76 : szz Tryd.prog 76 = some 1 := by kernel_rfl
@[simp] theorem isAg_76 : isAg Tryd.prog 76 = some false := by kernel_rfl
@[simp] theorem zeroC_76 : zeroC Tryd.prog 76 = some [.v .any] := by kernel_rfl
@[simp] theorem sz_77 : sz Tryd.prog 77 = some 1 := by kernel_rfl
@[simp] theorem bytes_77 : bytes Tryd.prog 77 = some 8 := by kernel_rfl
@[simp] theorem szz_77 : szz Tryd.prog 77 = some 1 := by kernel_rfl
@[simp] theorem isAg_77 : isAg Tryd.prog 77 = some false := by kernel_rfl
@[simp] theorem zeroC_77 : zeroC Tryd.prog 77 = some [.v .any] := by kernel_rfl
@[simp] theorem sz_78 : sz Tryd.prog 78 = some 1 := by kernel_rfl
@[simp] theorem bytes_78 : bytes Tryd.prog 78 = some 8 := by kernel_rfl
@[simp] theorem szz_78 : szz Tryd.prog 78 = some 1 := by kernel_rfl
@[simp] theorem isAg_78 : isAg Tryd.prog 78 = some false := by kernel_rfl
@[simp] theorem zeroC_78 : zeroC Tryd.prog 78 = some [.v .any] := by kernel_rfl
@[simp] theorem sz_79 : sz Tryd.prog 79 = some 1 := by kernel_rfl
@[simp] theorem bytes_79 : bytes Tryd.prog 79 = some 8 := by kernel_rfl
@[simp] theorem szz_79 : szz Tryd.prog 79 = some 1 := by kernel_rfl
@[simp] theorem isAg_79 : isAg Tryd.prog 79 = some false := by kernel_rfl
@[simp] theorem zeroC_79 : zeroC Tryd.prog 79 = some [.v .any] := by kernel_rfl
@[simp] theorem sz_80 : sz Tryd.prog 80 = some 1 := by kernel_rfl
@[simp] theorem bytes_80 : bytes Tryd.prog 80 = some 8 := by kernel_rfl
@[simp] theorem szz_80 : szz Tryd.prog 80 = some 1 := by kernel_rfl
@[simp] theorem isAg_80 : isAg Tryd.prog 80 = some false := by kernel_rfl
@[simp] theorem zeroC_80 : zeroC Tryd.prog 80 = some [.v .any] := by kernel_rfl
@[simp] theorem sz_82 : sz Tryd.prog 82 = some 1 := by kernel_rfl
@[simp] theorem bytes_82 : bytes Tryd.prog 82 = some 8 := by kernel_rfl
@[simp] theorem szz_82 : szz Tryd.prog 82 = some 1 := by kernel_rfl
@[simp] theorem isAg_82 : isAg Tryd.prog 82 = some false := by kernel_rfl
@[simp] theorem zeroC_82 : zeroC Tryd.prog 82 = some [.v .any] := by kernel_rfl
@[simp] theorem sz_83 : sz Tryd.prog 83 = some 1 := by kernel_rfl
@[simp] theorem bytes_83 : bytes Tryd.prog 83 = some 8 := by kernel_rfl
@[simp] theorem szz_83 : szz Tryd.prog 83 = some 1 := by kernel_rfl
@[simp] theorem isAg_83 : isAg Tryd.prog 83 = some false := by kernel_rfl
@[simp] theorem zeroC_83 : zeroC Tryd.prog 83 = some [.v .any] := by kernel_rfl
@[simp] theorem sz_84 : sz Tryd.prog 84 = some 1 := by kernel_rfl
@[simp] theorem bytes_84 : bytes Tryd.prog 84 = some 8 := by kernel_rfl
@[simp] theorem szz_84 : szz Tryd.prog 84 = some 1 := by kernel_rfl
@[simp] theorem isAg_84 : isAg Tryd.prog 84 = some false := by kernel_rfl
@[simp] theorem zeroC_84 : zeroC Tryd.prog 84 = some [.v .any] := by kernel_rfl
@[simp] theorem sz_85 : sz Tryd.prog 85 = some 2 := by kernel_rfl
@[simp] theorem bytes_85 : bytes Tryd.prog 85 = some 16 := by kernel_rfl
@[simp] theorem szz_85 : szz Tryd.prog 85 = some 2 := by kernel_rfl
@[simp] theorem isAg_85 : isAg Tryd.prog 85 = some true := by kernel_rfl
@[simp] theorem zeroC_85 : zeroC Tryd.prog 85 = some [.v (.int .i64 0), .v (.int .i64 0)] := by kernel_rfl
@[simp] theorem fieldsOk_85 : fieldsOk Tryd.prog 85 = true := by kernel_rfl
@[simp] theorem eqKinds_85 : eqKinds Tryd.prog 85 = some [1, 1] := by kernel_rfl
@[simp] theorem fo_85_0 : fo Tryd.prog 85 0 = some 0 := by kernel_rfl
@[simp] theorem fld_85_0 : fld Tryd.prog 85 0 = some (3, 0) := by kernel_rfl
@[simp] theorem fsz_85_0 : fsz Tryd.prog 85 0 = some 1 := by kernel_rfl
@[simp] theorem fo_85_1 : fo Tryd.prog 85 1 = some 1 := by kernel_rfl
@[simp] theorem fld_85_1 : fld Tryd.prog 85 1 = some (3, 1) := by kernel_rfl
@[simp] theorem fsz_85_1 : fsz Tryd.prog 85 1 = some 1 := by kernel_rfl
@[simp] theorem sz_86 : sz Tryd.prog 86 = some 2 := by kernel_rfl
@[simp] theorem bytes_86 : bytes Tryd.prog 86 = some 16 := by kernel_rfl
@[simp] theorem szz_86 : szz Tryd.prog 86 = some 2 := by kernel_rfl
@[simp] theorem isAg_86 : isAg Tryd.prog 86 = some true := by kernel_rfl
@[simp] theorem zeroC_86 : zeroC Tryd.prog 86 = some [.v (.int .i64 0), .v (.int .i64 0)] := by kernel_rfl
@[simp] theorem fieldsOk_86 : fieldsOk Tryd.prog 86 = true := by kernel_rfl
@[simp] theorem eqKinds_86 : eqKinds Tryd.prog 86 = some [1, 1] := by kernel_rfl
@[simp] theorem fo_86_0 : fo Tryd.prog 86 0 = some 0 := by kernel_rfl
@[simp] theorem fld_86_0 : fld Tryd.prog 86 0 = some (3, 0) := by kernel_rfl
@[simp] theorem fsz_86_0 : fsz Tryd.prog 86 0 = some 1 := by kernel_rfl
@[simp] theorem fo_86_1 : fo Tryd.prog 86 1 = some 1 := by kernel_rfl
@[simp] theorem fld_86_1 : fld Tryd.prog 86 1 = some (3, 1) := by kernel_rfl
@[simp] theorem fsz_86_1 : fsz Tryd.prog 86 1 = some 1 := by kernel_rfl
@[simp] theorem sz_87 : sz Tryd.prog 87 = some 1 := by kernel_rfl
@[simp] theorem bytes_87 : bytes Tryd.prog 87 = some 8 := by kernel_rfl
@[simp] theorem szz_87 : szz Tryd.prog 87 = some 1 := by kernel_rfl
@[simp] theorem isAg_87 : isAg Tryd.prog 87 = some false := by kernel_rfl
@[simp] theorem zeroC_87 : zeroC Tryd.prog 87 = some [.v .any] := by kernel_rfl
@[simp] theorem sz_88 : sz Tryd.prog 88 = some 2 := by kernel_rfl
@[simp] theorem bytes_88 : bytes Tryd.prog 88 = some 32 := by kernel_rfl
@[simp] theorem szz_88 : szz Tryd.prog 88 = some 2 := by kernel_rfl
@[simp] theorem isAg_88 : isAg Tryd.prog 88 = some true := by kernel_rfl
@[simp] theorem fieldsOk_88 : fieldsOk Tryd.prog 88 = true := by kernel_rfl
@[simp] theorem fo_88_0 : fo Tryd.prog 88 0 = some 0 := by kernel_rfl
@[simp] theorem fld_88_0 : fld Tryd.prog 88 0 = some (87, 0) := by kernel_rfl
@[simp] theorem fsz_88_0 : fsz Tryd.prog 88 0 = some 1 := by kernel_rfl
@[simp] theorem fo_88_1 : fo Tryd.prog 88 1 = some 1 := by kernel_rfl
@[simp] theorem fld_88_1 : fld Tryd.prog 88 1 = some (60, 1) := by kernel_rfl
@[simp] theorem fsz_88_1 : fsz Tryd.prog 88 1 = some 1 := by kernel_rfl
@[simp] theorem sz_89 : sz Tryd.prog 89 = some 2 := by kernel_rfl
@[simp] theorem bytes_89 : bytes Tryd.prog 89 = some 32 := by kernel_rfl
@[simp] theorem szz_89 : szz Tryd.prog 89 = some 2 := by kernel_rfl
@[simp] theorem isAg_89 : isAg Tryd.prog 89 = some true := by kernel_rfl
@[simp] theorem fieldsOk_89 : fieldsOk Tryd.prog 89 = true := by kernel_rfl
@[simp] theorem fo_89_0 : fo Tryd.prog 89 0 = some 0 := by kernel_rfl
@[simp] theorem fld_89_0 : fld Tryd.prog 89 0 = some (87, 0) := by kernel_rfl
@[simp] theorem fsz_89_0 : fsz Tryd.prog 89 0 = some 1 := by kernel_rfl
@[simp] theorem fo_89_1 : fo Tryd.prog 89 1 = some 1 := by kernel_rfl
@[simp] theorem fld_89_1 : fld Tryd.prog 89 1 = some (60, 1) := by kernel_rfl
@[simp] theorem fsz_89_1 : fsz Tryd.prog 89 1 = some 1 := by kernel_rfl
@[simp] theorem sz_90 : sz Tryd.prog 90 = some 1 := by kernel_rfl
@[simp] theorem bytes_90 : bytes Tryd.prog 90 = some 8 := by kernel_rfl
@[simp] theorem szz_90 : szz Tryd.prog 90 = some 1 := by kernel_rfl
@[simp] theorem isAg_90 : isAg Tryd.prog 90 = some false := by kernel_rfl
@[simp] theorem zeroC_90 : zeroC Tryd.prog 90 = some [.v .any] := by kernel_rfl
@[simp] theorem sz_91 : sz Tryd.prog 91 = some 1 := by kernel_rfl
@[simp] theorem bytes_91 : bytes Tryd.prog 91 = some 8 := by kernel_rfl
@[simp] theorem szz_91 : szz Tryd.prog 91 = some 1 := by kernel_rfl
@[simp] theorem isAg_91 : isAg Tryd.prog 91 = some false := by kernel_rfl
@[simp] theorem zeroC_91 : zeroC Tryd.prog 91 = some [.v .any] := by kernel_rfl
@[simp] theorem sz_92 : sz Tryd.prog 92 = some 1 := by kernel_rfl
@[simp] theorem bytes_92 : bytes Tryd.prog 92 = some 8 := by kernel_rfl
@[simp] theorem szz_92 : szz Tryd.prog 92 = some 1 := by kernel_rfl
@[simp] theorem isAg_92 : isAg Tryd.prog 92 = some false := by kernel_rfl
@[simp] theorem zeroC_92 : zeroC Tryd.prog 92 = some [.v .any] := by kernel_rfl
@[simp] theorem sz_93 : sz Tryd.prog 93 = some 1 := by kernel_rfl
@[simp] theorem bytes_93 : bytes Tryd.prog 93 = some 8 := by kernel_rfl
@[simp] theorem szz_93 : szz Tryd.prog 93 = some 1 := by kernel_rfl
@[simp] theorem isAg_93 : isAg Tryd.prog 93 = some false := by kernel_rfl
@[simp] theorem zeroC_93 : zeroC Tryd.prog 93 = some [.v .any] := by kernel_rfl
@[simp] theorem sz_94 : sz Tryd.prog 94 = some 1 := by kernel_rfl
@[simp] theorem bytes_94 : bytes Tryd.prog 94 = some 8 := by kernel_rfl
@[simp] theorem szz_94 : szz Tryd.prog 94 = some 1 := by kernel_rfl
@[simp] theorem isAg_94 : isAg Tryd.prog 94 = some false := by kernel_rfl
@[simp] theorem zeroC_94 : zeroC Tryd.prog 94 = some [.v .any] := by kernel_rfl
@[simp] theorem sz_95 : sz Tryd.prog 95 = some 1 := by kernel_rfl
@[simp] theorem bytes_95 : bytes Tryd.prog 95 = some 8 := by kernel_rfl
@[simp] theorem szz_95 : szz Tryd.prog 95 = some 1 := by kernel_rfl
@[simp] theorem isAg_95 : isAg Tryd.prog 95 = some false := by kernel_rfl
@[simp] theorem intK_95 : intK Tryd.prog 95 = some .u64 := by kernel_rfl
@[simp] theorem zeroC_95 : zeroC Tryd.prog 95 = some [.v (.int .u64 0)] := by kernel_rfl
@[simp] theorem sz_96 : sz Tryd.prog 96 = some 1 := by kernel_rfl
@[simp] theorem bytes_96 : bytes Tryd.prog 96 = some 8 := by kernel_rfl
@[simp] theorem szz_96 : szz Tryd.prog 96 = some 1 := by kernel_rfl
@[simp] theorem isAg_96 : isAg Tryd.prog 96 = some false := by kernel_rfl
@[simp] theorem intK_96 : intK Tryd.prog 96 = some .i64 := by kernel_rfl
@[simp] theorem zeroC_96 : zeroC Tryd.prog 96 = some [.v (.int .i64 0)] := by kernel_rfl
@[simp] theorem sz_98 : sz Tryd.prog 98 = some 1 := by kernel_rfl
@[simp] theorem bytes_98 : bytes Tryd.prog 98 = some 8 := by kernel_rfl
@[simp] theorem szz_98 : szz Tryd.prog 98 = some 1 := by kernel_rfl
@[simp] theorem isAg_98 : isAg Tryd.prog 98 = some false := by kernel_rfl
@[simp] theorem zeroC_98 : zeroC Tryd.prog 98 = some [.v .any] := by kernel_rfl
@[simp] theorem sz_99 : sz Tryd.prog 99 = some 1 := by kernel_rfl
@[simp] theorem bytes_99 : bytes Tryd.prog 99 = some 8 := by kernel_rfl
@[simp] theorem szz_99 : szz Tryd.prog 99 = some 1 := by kernel_rfl
@[simp] theorem isAg_99 : isAg Tryd.prog 99 = some false := by kernel_rfl
@[simp] theorem zeroC_99 : zeroC Tryd.prog 99 = some [.v .any] := by kernel_rfl
@[simp] theorem sz_100 : sz Tryd.prog 100 = some 1 := by kernel_rfl
@[simp] theorem bytes_100 : bytes Tryd.prog 100 = some 8 := by kernel_rfl
@[simp] theorem szz_100 : szz Tryd.prog 100 = some 1 := by kernel_rfl
@[simp] theorem isAg_100 : isAg Tryd.prog 100 = some false := by kernel_rfl
@[simp] theorem zeroC_100 : zeroC Tryd.prog 100 = some [.v .any] := by kernel_rfl
@[simp] theorem sz_101 : sz Tryd.prog 101 = some 1 := by kernel_rfl
@[simp] theorem bytes_101 : bytes Tryd.prog 101 = some 8 := by kernel_rfl
@[simp] theorem szz_101 : szz Tryd.prog 101 = some 1 := by kernel_rfl
@[simp] theorem isAg_101 : isAg Tryd.prog 101 = some false := by kernel_rfl
@[simp] theorem zeroC_101 : zeroC Tryd.prog 101 = some [.v .any] := by kernel_rfl
@[simp] theorem sz_102 : sz Tryd.prog 102 = some 1 := by kernel_rfl
@[simp] theorem bytes_102 : bytes Tryd.prog 102 = some 8 := by kernel_rfl
@[simp] theorem szz_102 : szz Tryd.prog 102 = some 1 := by kernel_rfl
@[simp] theorem isAg_102 : isAg Tryd.prog 102 = some false := by kernel_rfl
@[simp] theorem zeroC_102 : zeroC Tryd.prog 102 = some [.v .any] := by kernel_rfl
@[simp] theorem sz_103 : sz Tryd.prog 103 = some 1 := by kernel_rfl
@[simp] theorem bytes_103 : bytes Tryd.prog 103 = some 8 := by kernel_rfl
@[simp] theorem szz_103 : szz Tryd.prog 103 = some 1 := by kernel_rfl
@[simp] theorem isAg_103 : isAg Tryd.prog 103 = some false := by kernel_rfl
@[simp] theorem zeroC_103 : zeroC Tryd.prog 103 = some [.v .any] := by kernel_rfl
@[simp] theorem sz_104 : sz Tryd.prog 104 = some 1 := by kernel_rfl
@[simp] theorem bytes_104 : bytes Tryd.prog 104 = some 8 := by kernel_rfl
@[simp] theorem szz_104 : szz Tryd.prog 104 = some 1 := by kernel_rfl
@[simp] theorem isAg_104 : isAg Tryd.prog 104 = some false := by kernel_rfl
@[simp] theorem zeroC_104 : zeroC Tryd.prog 104 = some [.v .any] := by kernel_rfl
@[simp] theorem sz_106 : sz Tryd.prog 106 = some 1 := by kernel_rfl
@[simp] theorem bytes_106 : bytes Tryd.prog 106 = some 8 := by kernel_rfl
@[simp] theorem szz_106 : szz Tryd.prog 106 = some 1 := by kernel_rfl
@[simp] theorem isAg_106 : isAg Tryd.prog 106 = some false := by kernel_rfl
@[simp] theorem zeroC_106 : zeroC Tryd.prog 106 = some [.v .any] := by kernel_rfl
@[simp] theorem sz_107 : sz Tryd.prog 107 = some 1 := by kernel_rfl
@[simp] theorem bytes_107 : bytes Tryd.prog 107 = some 8 := by kernel_rfl
@[simp] theorem szz_107 : szz Tryd.prog 107 = some 1 := by kernel_rfl
@[simp] theorem isAg_107 : isAg Tryd.prog 107 = some false := by kernel_rfl
@[simp] theorem zeroC_107 : zeroC Tryd.prog 107 = some [.v .any] := by kernel_rfl
@[simp] theorem sz_108 : sz Tryd.prog 108 = some 1 := by kernel_rfl
@[simp] theorem bytes_108 : bytes Tryd.prog 108 = some 8 := by kernel_rfl
@[simp] theorem szz_108 : szz Tryd.prog 108 = some 1 := by kernel_rfl
@[simp] theorem isAg_108 : isAg Tryd.prog 108 = some false := by kernel_rfl
@[simp] theorem zeroC_108 : zeroC Tryd.prog 108 = some [.v .any] := by kernel_rfl
@[simp] theorem sz_109 : sz Tryd.prog 109 = some 1 := by kernel_rfl
@[simp] theorem bytes_109 : bytes Tryd.prog 109 = some 8 := by kernel_rfl
@[simp] theorem szz_109 : szz Tryd.prog 109 = some 1 := by kernel_rfl
@[simp] theorem isAg_109 : isAg Tryd.prog 109 = some false := by kernel_rfl
@[simp] theorem zeroC_109 : zeroC Tryd.prog 109 = some [.v .any] := by kernel_rfl
@[simp] theorem sz_110 : sz Tryd.prog 110 = some 1 := by kernel_rfl
@[simp] theorem bytes_110 : bytes Tryd.prog 110 = some 8 := by kernel_rfl
@[simp] theorem szz_110 : szz Tryd.prog 110 = some 1 := by kernel_rfl
@[simp] theorem isAg_110 : isAg Tryd.prog 110 = some false := by kernel_rfl
@[simp] theorem zeroC_110 : zeroC Tryd.prog 110 = some [.v .any] := by kernel_rfl
@[simp] theorem sz_111 : sz Tryd.prog 111 = some 1 := by kernel_rfl
@[simp] theorem bytes_111 : bytes Tryd.prog 111 = some 8 := by kernel_rfl
@[simp] theorem szz_111 : szz Tryd.prog 111 = some 1 := by kernel_rfl
@[simp] theorem isAg_111 : isAg Tryd.prog 111 = some false := by kernel_rfl
@[simp] theorem zeroC_111 : zeroC Tryd.prog 111 = some [.v .any] := by kernel_rfl
@[simp] theorem sz_112 : sz Tryd.prog 112 = some 1 := by kernel_rfl
@[simp] theorem bytes_112 : bytes Tryd.prog 112 = some 4 := by kernel_rfl
@[simp] theorem szz_112 : szz Tryd.prog 112 = some 1 := by kernel_rfl
@[simp] theorem isAg_112 : isAg Tryd.prog 112 = some false := by kernel_rfl
@[simp] theorem intK_112 : intK Tryd.prog 112 = some .u32 := by kernel_rfl
@[simp] theorem zeroC_112 : zeroC Tryd.prog 112 = some [.v (.int .u32 0)] := by kernel_rfl
@[simp] theorem sz_114 : sz Tryd.prog 114 = some 1 := by kernel_rfl
@[simp] theorem bytes_114 : bytes Tryd.prog 114 = some 8 := by kernel_rfl
@[simp] theorem szz_114 : szz Tryd.prog 114 = some 1 := by kernel_rfl
@[simp] theorem isAg_114 : isAg Tryd.prog 114 = some false := by kernel_rfl
@[simp] theorem zeroC_114 : zeroC Tryd.prog 114 = some [.v .any] := by kernel_rfl
@[simp] theorem sz_115 : sz Tryd.prog 115 = some 1 := by kernel_rfl
@[simp] theorem bytes_115 : bytes Tryd.prog 115 = some 8 := by kernel_rfl
@[simp] theorem szz_115 : szz Tryd.prog 115 = some 1 := by kernel_rfl
@[simp] theorem isAg_115 : isAg Tryd.prog 115 = some false := by kernel_rfl
@[simp] theorem intK_115 : intK Tryd.prog 115 = some .u64 := by kernel_rfl
@[simp] theorem zeroC_115 : zeroC Tryd.prog 115 = some [.v (.int .u64 0)] := by kernel_rfl
@[simp] theorem sz_117 : sz Tryd.prog 117 = some 1 := by kernel_rfl
@[simp] theorem bytes_117 : bytes Tryd.prog 117 = some 8 := by kernel_rfl
@[simp] theorem szz_117 : szz Tryd.prog 117 = some 1 := by kernel_rfl
@[simp] theorem isAg_117 : isAg Tryd.prog 117 = some false := by kernel_rfl
@[simp] theorem zeroC_117 : zeroC Tryd.prog 117 = some [.v .any] := by kernel_rfl
@[simp] theorem sz_118 : sz Tryd.prog 118 = some 1 := by kernel_rfl
@[simp] theorem bytes_118 : bytes Tryd.prog 118 = some 8 := by kernel_rfl
@[simp] theorem szz_118 : szz Tryd.prog 118 = some 1 := by kernel_rfl
@[simp] theorem isAg_118 : isAg Tryd.prog 118 = some false := by kernel_rfl
@[simp] theorem zeroC_118 : zeroC Tryd.prog 118 = some [.v .any] := by kernel_rfl
@[simp] theorem sz_119 : sz Tryd.prog 119 = some 3 := by kernel_rfl
@[simp] theorem bytes_119 : bytes Tryd.prog 119 = some 48 := by kernel_rfl
@[simp] theorem szz_119 : szz Tryd.prog 119 = some 3 := by kernel_rfl
@[simp] theorem isAg_119 : isAg Tryd.prog 119 = some true := by kernel_rfl
@[simp] theorem zeroC_119 : zeroC Tryd.prog 119 = some [.v (.str []), .v (.str []), .v .any] := by kernel_rfl
@[simp] theorem fieldsOk_119 : fieldsOk Tryd.prog 119 = true := by kernel_rfl
@[simp] theorem fo_119_0 : fo Tryd.prog 119 0 = some 0 := by kernel_rfl
@[simp] theorem fld_119_0 : fld Tryd.prog 119 0 = some (9, 0) := by kernel_rfl
@[simp] theorem fsz_119_0 : fsz Tryd.prog 119 0 = some 1 := by kernel_rfl
@[simp] theorem fo_119_1 : fo Tryd.prog 119 1 = some 1 := by kernel_rfl
@[simp] theorem fld_119_1 : fld Tryd.prog 119 1 = some (9, 1) := by kernel_rfl
@[simp] theorem fsz_119_1 : fsz Tryd.prog 119 1 = some 1 := by kernel_rfl
@[simp] theorem fo_119_2 : fo Tryd.prog 119 2 = some 2 := by kernel_rfl
@[simp] theorem fld_119_2 : fld Tryd.prog 119 2 = some (57, 2) := by kernel_rfl
@[simp] theorem fsz_119_2 : fsz Tryd.prog 119 2 = some 1 := by kernel_rfl
@[simp] theorem sz_120 : sz Tryd.prog 120 = some 3 := by kernel_rfl
@[simp] theorem bytes_120 : bytes Tryd.prog 120 = some 48 := by kernel_rfl
@[simp] theorem szz_120 : szz Tryd.prog 120 = some 3 := by kernel_rfl
@[simp] theorem isAg_120 : isAg Tryd.prog 120 = some true := by kernel_rfl
@[simp] theorem zeroC_120 : zeroC Tryd.prog 120 = some [.v (.str []), .v (.str []), .v .any] := by kernel_rfl
@[simp] theorem fieldsOk_120 : fieldsOk Tryd.prog 120 = true := by kernel_rfl
@[simp] theorem fo_120_0 : fo Tryd.prog 120 0 = some 0 := by kernel_rfl
@[simp] theorem fld_120_0 : fld Tryd.prog 120 0 = some (9, 0) := by kernel_rfl
@[simp] theorem fsz_120_0 : fsz Tryd.prog 120 0 = some 1 := by kernel_rfl
@[simp] theorem fo_120_1 : fo Tryd.prog 120 1 = some 1 := by kernel_rfl
@[simp] theorem fld_120_1 : fld Tryd.prog 120 1 = some (9, 1) := by kernel_rfl
@[simp] theorem fsz_120_1 : fsz Tryd.prog 120 1 = some 1 := by kernel_rfl
@[simp] theorem fo_120_2 : fo Tryd.prog 120 2 = some 2 := by kernel_rfl
@[simp] theorem fld_120_2 : fld Tryd.prog 120 2 = some (57, 2) := by kernel_rfl
@[simp] theorem fsz_120_2 : fsz Tryd.prog 120 2 = some 1 := by kernel_rfl
@[simp] theorem sz_121 : sz Tryd.prog 121 = some 1 := by kernel_rfl
@[simp] theorem bytes_121 : bytes Tryd.prog 121 = some 8 := by kernel_rfl
@[simp] theorem szz_121 : szz Tryd.prog 121 = some 1 := by kernel_rfl
@[simp] theorem isAg_121 : isAg Tryd.prog 121 = some false := by kernel_rfl
@[simp] theorem zeroC_121 : zeroC Tryd.prog 121 = some [.v .any] := by kernel_rfl
@[simp] theorem sz_123 : sz Tryd.prog 123 = some 1 := by kernel_rfl
@[simp] theorem bytes_123 : bytes Tryd.prog 123 = some 8 := by kernel_rfl
@[simp] theorem szz_123 : szz Tryd.prog 123 = some 1 := by kernel_rfl
@[simp] theorem isAg_123 : isAg Tryd.prog 123 = some false := by kernel_rfl
@[simp] theorem zeroC_123 : zeroC Tryd.prog 123 = some [.v .any] := by kernel_rfl
@[simp] theorem sz_124 : sz Tryd.prog 124 = some 1 := by kernel_rfl
@[simp] theorem bytes_124 : bytes Tryd.prog 124 = some 24 := by kernel_rfl
@[simp] theorem szz_124 : szz Tryd.prog 124 = some 1 := by kernel_rfl
@[simp] theorem isAg_124 : isAg Tryd.prog 124 = some false := by kernel_rfl
@[simp] theorem elT_124 : elT Tryd.prog 124 = some 3 := by kernel_rfl
@[simp] theorem isStr_124 : isStr Tryd.prog 124 = some false := by kernel_rfl
@[simp] theorem zeroC_124 : zeroC Tryd.prog 124 = some [.nil] := by kernel_rfl
@[simp] theorem sz_126 : sz Tryd.prog 126 = some 1 := by kernel_rfl
@[simp] theorem bytes_126 : bytes Tryd.prog 126 = some 8 := by kernel_rfl
@[simp] theorem szz_126 : szz Tryd.prog 126 = some 1 := by kernel_rfl
@[simp] theorem isAg_126 : isAg Tryd.prog 126 = some false := by kernel_rfl
@[simp] theorem zeroC_126 : zeroC Tryd.prog 126 = some [.v .any] := by kernel_rfl
@[simp] theorem sz_127 : sz Tryd.prog 127 = some 1 := by kernel_rfl
@[simp] theorem bytes_127 : bytes Tryd.prog 127 = some 8 := by kernel_rfl
@[simp] theorem szz_127 : szz Tryd.prog 127 = some 1 := by kernel_rfl
@[simp] theorem isAg_127 : isAg Tryd.prog 127 = some false := by kernel_rfl
@[simp] theorem zeroC_127 : zeroC Tryd.prog 127 = some [.v .any] := by kernel_rfl
@[simp] theorem sz_129 : sz Tryd.prog 129 = some 1 := by kernel_rfl
@[simp] theorem bytes_129 : bytes Tryd.prog 129 = some 8 := by kernel_rfl
@[simp] theorem szz_129 : szz Tryd.prog 129 = some 1 := by kernel_rfl
@[simp] theorem isAg_129 : isAg Tryd.prog 129 = some false := by kernel_rfl
@[simp] theorem zeroC_129 : zeroC Tryd.prog 129 = some [.v .any] := by kernel_rfl
@[simp] theorem sz_131 : sz Tryd.prog 131 = some 1 := by kernel_rfl
@[simp] theorem bytes_131 : bytes Tryd.prog 131 = some 8 := by kernel_rfl
@[simp] theorem szz_131 : szz Tryd.prog 131 = some 1 := by kernel_rfl
@[simp] theorem isAg_131 : isAg Tryd.prog 131 = some false := by kernel_rfl
@[simp] theorem zeroC_131 : zeroC Tryd.prog 131 = some [.v .any] := by kernel_rfl
@[simp] theorem sz_132 : sz Tryd.prog 132 = some 1 := by kernel_rfl
@[simp] theorem bytes_132 : bytes Tryd.prog 132 = some 8 := by kernel_rfl
@[simp] theorem szz_132 : szz Tryd.prog 132 = some 1 := by kernel_rfl
@[simp] theorem isAg_132 : isAg Tryd.prog 132 = some false := by kernel_rfl
@[simp] theorem zeroC_132 : zeroC Tryd.prog 132 = some [.v .any] := by kernel_rfl
@[simp] theorem sz_133 : sz Tryd.prog 133 = some 1 := by kernel_rfl
@[simp] theorem bytes_133 : bytes Tryd.prog 133 = some 8 := by kernel_rfl
@[simp] theorem szz_133 : szz Tryd.prog 133 = some 1 := by kernel_rfl
@[simp] theorem isAg_133 : isAg Tryd.prog 133 = some false := by kernel_rfl
@[simp] theorem zeroC_133 : zeroC Tryd.prog 133 = some [.v .any] := by kernel_rfl
@[simp] theorem sz_134 : sz Tryd.prog 134 = some 1 := by kernel_rfl
@[simp] theorem bytes_134 : bytes Tryd.prog 134 = some 8 := by kernel_rfl
@[simp] theorem szz_134 : szz Tryd.prog 134 = some 1 := by kernel_rfl
@[simp] theorem isAg_134 : isAg Tryd.prog 134 = some false := by kernel_rfl
@[simp] theorem zeroC_134 : zeroC Tryd.prog 134 = some [.v .any] := by kernel_rfl
@[simp] theorem sz_135 : sz Tryd.prog 135 = some 1 := by kernel_rfl
@[simp] theorem bytes_135 : bytes Tryd.prog 135 = some 16 := by kernel_rfl
@[simp] theorem szz_135 : szz Tryd.prog 135 = some 1 := by kernel_rfl
@[simp] theorem isAg_135 : isAg Tryd.prog 135 = some true := by kernel_rfl
@[simp] theorem zeroC_135 : zeroC Tryd.prog 135 = some [.v (.str [])] := by kernel_rfl
@[simp] theorem fieldsOk_135 : fieldsOk Tryd.prog 135 = true := by kernel_rfl
@[simp] theorem eqKinds_135 : eqKinds Tryd.prog 135 = some [2] := by kernel_rfl
@[simp] theorem fo_135_0 : fo Tryd.prog 135 0 = some 0 := by kernel_rfl
@[simp] theorem fld_135_0 : fld Tryd.prog 135 0 = some (9, 0) := by kernel_rfl
@[simp] theorem fsz_135_0 : fsz Tryd.prog 135 0 = some 1 := by kernel_rfl
@[simp] theorem sz_136 : sz Tryd.prog 136 = some 1 := by kernel_rfl
@[simp] theorem bytes_136 : bytes Tryd.prog 136 = some 16 := by kernel_rfl
@[simp] theorem szz_136 : szz Tryd.prog 136 = some 1 := by kernel_rfl
@[simp] theorem isAg_136 : isAg Tryd.prog 136 = some true := by kernel_rfl
@[simp] theorem zeroC_136 : zeroC Tryd.prog 136 = some [.v (.str [])] := by kernel_rfl
@[simp] theorem fieldsOk_136 : fieldsOk Tryd.prog 136 = true := by kernel_rfl
@[simp] theorem eqKinds_136 : eqKinds Tryd.prog 136 = some [2] := by kernel_rfl
@[simp] theorem fo_136_0 : fo Tryd.prog 136 0 = some 0 := by kernel_rfl
@[simp] theorem fld_136_0 : fld Tryd.prog 136 0 = some (9, 0) := by kernel_rfl
@[simp] theorem fsz_136_0 : fsz Tryd.prog 136 0 = some 1 := by kernel_rfl
@[simp] theorem sz_138 : sz Tryd.prog 138 = some 2 := by kernel_rfl
@[simp] theorem bytes_138 : bytes Tryd.prog 138 = some 2 := by kernel_rfl
@[simp] theorem szz_138 : szz Tryd.prog 138 = some 2 := by kernel_rfl
@[simp] theorem isAg_138 : isAg Tryd.prog 138 = some true := by kernel_rfl
@[simp] theorem zeroC_138 : zeroC Tryd.prog 138 = some [.v (.int .u8 0), .v (.int .u8 0)] := by kernel_rfl
@[simp] theorem fieldsOk_138 : fieldsOk Tryd.prog 138 = true := by kernel_rfl
@[simp] theorem eqKinds_138 : eqKinds Tryd.prog 138 = some [1, 1] := by kernel_rfl
@[simp] theorem fo_138_0 : fo Tryd.prog 138 0 = some 0 := by kernel_rfl
@[simp] theorem fld_138_0 : fld Tryd.prog 138 0 = some (5, 0) := by kernel_rfl
@[simp] theorem fsz_138_0 : fsz Tryd.prog 138 0 = some 1 := by kernel_rfl
@[simp] theorem fo_138_1 : fo Tryd.prog 138 1 = some 1 := by kernel_rfl
@[simp] theorem fld_138_1 : fld Tryd.prog 138 1 = some (5, 1) := by kernel_rfl
@[simp] theorem fsz_138_1 : fsz Tryd.prog 138 1 = some 1 := by kernel_rfl
@[simp] theorem sz_139 : sz Tryd.prog 139 = some 2 := by kernel_rfl
@[simp] theorem bytes_139 : bytes Tryd.prog 139 = some 2 := by kernel_rfl
@[simp] theorem szz_139 : szz Tryd.prog 139 = some 2 := by kernel_rfl
@[simp] theorem isAg_139 : isAg Tryd.prog 139 = some true := by kernel_rfl
@[simp] theorem zeroC_139 : zeroC Tryd.prog 139 = some [.v (.int .u8 0), .v (.int .u8 0)] := by kernel_rfl
@[simp] theorem fieldsOk_139 : fieldsOk Tryd.prog 139 = true := by kernel_rfl
@[simp] theorem eqKinds_139 : eqKinds Tryd.prog 139 = some [1, 1] := by kernel_rfl
@[simp] theorem fo_139_0 : fo Tryd.prog 139 0 = some 0 := by kernel_rfl
@[simp] theorem fld_139_0 : fld Tryd.prog 139 0 = some (5, 0) := by kernel_rfl
@[simp] theorem fsz_139_0 : fsz Tryd.prog 139 0 = some 1 := by kernel_rfl
@[simp] theorem fo_139_1 : fo Tryd.prog 139 1 = some 1 := by kernel_rfl
@[simp] theorem fld_139_1 : fld Tryd.prog 139 1 = some (5, 1) := by kernel_rfl
@[simp] theorem fsz_139_1 : fsz Tryd.prog 139 1 = some 1 := by kernel_rfl
@[simp] theorem sz_141 : sz Tryd.prog 141 = some 1 := by kernel_rfl
@[simp] theorem bytes_141 : bytes Tryd.prog 141 = some 8 := by kernel_rfl
@[simp] theorem szz_141 : szz Tryd.prog 141 = some 1 := by kernel_rfl
@[simp] theorem isAg_141 : isAg Tryd.prog 141 = some false := by kernel_rfl
@[simp] theorem zeroC_141 : zeroC Tryd.prog 141 = some [.v .any] := by kernel_rfl
@[simp] theorem sz_144 : sz Tryd.prog 144 = some 1 := by kernel_rfl
@[simp] theorem bytes_144 : bytes Tryd.prog 144 = some 8 := by kernel_rfl
@[simp] theorem szz_144 : szz Tryd.prog 144 = some 1 := by kernel_rfl
@[simp] theorem isAg_144 : isAg Tryd.prog 144 = some false := by kernel_rfl
@[simp] theorem zeroC_144 : zeroC Tryd.prog 144 = some [.v .any] := by kernel_rfl
@[simp] theorem sz_145 : sz Tryd.prog 145 = some 1 := by kernel_rfl
@[simp] theorem bytes_145 : bytes Tryd.prog 145 = some 8 := by kernel_rfl
@[simp] theorem szz_145 : szz Tryd.prog 145 = some 1 := by kernel_rfl
@[simp] theorem isAg_145 : isAg Tryd.prog 145 = some false := by kernel_rfl
@[simp] theorem zeroC_145 : zeroC Tryd.prog 145 = some [.v .any] := by kernel_rfl
@[simp] theorem sz_146 : sz Tryd.prog 146 = some 1 := by kernel_rfl
@[simp] theorem bytes_146 : bytes Tryd.prog 146 = some 8 := by kernel_rfl
@[simp] theorem szz_146 : szz Tryd.prog 146 = some 1 := by kernel_rfl
@[simp] theorem isAg_146 : isAg Tryd.prog 146 = some false := by kernel_rfl
@[simp] theorem zeroC_146 : zeroC Tryd.prog 146 = some [.v .any] := by kernel_rfl
@[simp] theorem sz_154 : sz Tryd.prog 154 = some 1 := by kernel_rfl
@[simp] theorem bytes_154 : bytes Tryd.prog 154 = some 8 := by kernel_rfl
@[simp] theorem szz_154 : szz Tryd.prog 154 = some 1 := by kernel_rfl
@[simp] theorem isAg_154 : isAg Tryd.prog 154 = some false := by kernel_rfl
@[simp] theorem zeroC_154 : zeroC Tryd.prog 154 = some [.v .any] := by kernel_rfl
@[simp] theorem sz_157 : sz Tryd.prog 157 = some 1 := by kernel_rfl
@[simp] theorem bytes_157 : bytes Tryd.prog 157 = some 8 := by kernel_rfl
@[simp] theorem szz_157 : szz Tryd.prog 157 = some 1 := by kernel_rfl
@[simp] theorem isAg_157 : isAg Tryd.prog 157 = some false := by kernel_rfl
@[simp] theorem zeroC_157 : zeroC Tryd.prog 157 = some [.v .any] := by kernel_rfl
end TL

set_option linter.unusedSimpArgs false
set_option linter.unusedVariables false
set_option maxRecDepth 100000
namespace TL
open Go Go.Proofs
theorem peopleOk_fn (p : Int) : FnZ Tryd.prog 60 [.int .i64 p] (.bool (decide (1 ≤ p) && decide (p ≤ 4))) := by
  refine FnZ_of (rs := [.tmp 2]) false Tryd.func60 rfl rfl rfl rfl (Nat.le_of_ble_eq_true rfl) ?_
  simp -dsimp
  refine iteP_intro (fun h => ?_) (fun h => ?_) <;> simp -dsimp [h]
theorem w64 {x : Int} (h1 : -9223372036854775808 ≤ x) (h2 : x ≤ 9223372036854775807) : IntKind.wrap .i64 x = x := by rw [IntKind.wrap_i64]; omega
def codeV (bs : List UInt8) : V := .sl (bs.map fun b => .int .u8 b.toNat)
theorem codeZ (bs : List UInt8) : allZ 1 (bs.map fun b => V.int .u8 b.toNat) := by
  intro x hx; obtain ⟨b, _, rfl⟩ := List.mem_map.1 hx; simp [V.cells, V.cell]
/-- What the reader says. -/
def rdNum (bs : List UInt8) (p : Nat) (k : Int) : Int :=
  if k < 1 ∨ bs.length = 0 then 0
  else if p < bs.length then ((bs.getD p 0).toNat : Int) % k
  else 0
theorem tmod_range (a k : Int) (h0 : 0 ≤ a) (hk : 1 ≤ k) : 0 ≤ a.tmod k ∧ (1 ≤ k → a.tmod k < k) := by
  rw [Int.tmod_eq_emod_of_nonneg h0]
  exact ⟨Int.emod_nonneg _ (by omega), fun _ => Int.emod_lt_of_pos _ (by omega)⟩
theorem tmod_nat (a b : Nat) (hb : 0 < b) : ∃ q : Nat, q < b ∧ (a : Int).tmod b = q := ⟨a % b, Nat.mod_lt _ hb, by rw [Int.tmod_eq_emod_of_nonneg (by omega)]; rfl⟩
theorem tdiv_nat (a b : Nat) : ∃ q : Nat, q ≤ a ∧ (a : Int).tdiv b = q := ⟨a / b, Nat.div_le_self _ _, by rw [Int.tdiv_eq_ediv_of_nonneg (by omega)]; rfl⟩
theorem xor64 (a b k : Int) (ha : 0 ≤ a) (ha' : a < 4611686018427387904) (hb : 0 ≤ b) (hb' : b < 4611686018427387904) (hk : 1 ≤ k) :
    0 ≤ (IntKind.wrap .i64 (((a % 2 ^ IntKind.i64.bits).toNat ^^^ (b % 2 ^ IntKind.i64.bits).toNat : Nat) : Int)).tmod k ∧ (1 ≤ k → (IntKind.wrap .i64 (((a % 2 ^ IntKind.i64.bits).toNat ^^^ (b % 2 ^ IntKind.i64.bits).toNat : Nat) : Int)).tmod k < k) := by
  obtain ⟨a, rfl⟩ := Int.eq_ofNat_of_zero_le ha
  obtain ⟨b, rfl⟩ := Int.eq_ofNat_of_zero_le hb
  have h1 : a < 2 ^ 62 := by omega
  have h2 : b < 2 ^ 62 := by omega
  have h3 := Nat.xor_lt_two_pow h1 h2
  have e1 : ((a : Int) % 2 ^ IntKind.i64.bits).toNat = a := by simp only [IntKind.bits]; omega
  have e2 : ((b : Int) % 2 ^ IntKind.i64.bits).toNat = b := by simp only [IntKind.bits]; omega
  rw [e1, e2, w64 (by omega) (by omega)]
  exact tmod_range _ _ (by omega) hk
theorem pick_facts (p c1 c2 q3 : Nat) (hp : p < 1000000000) (h1 : c1 < 256) (h2 : c2 < 256) (h3 : q3 ≤ p) :
    (IntKind.wrap .i64 ((p : Int) * 7) = p * 7) ∧
    (IntKind.wrap .i64 ((p : Int) * 7 + 3) = p * 7 + 3) ∧
    (IntKind.wrap .i64 (c1 : Int) = c1) ∧
    (IntKind.wrap .i64 ((c1 : Int) * 131) = c1 * 131) ∧
    (IntKind.wrap .i64 (c2 : Int) = c2) ∧
    (IntKind.wrap .i64 ((c2 : Int) * 1117) = c2 * 1117) ∧
    (IntKind.wrap .i64 ((c1 : Int) * 131 + c2 * 1117) = c1 * 131 + c2 * 1117) ∧
    (IntKind.wrap .i64 ((p : Int) * 29) = p * 29) ∧
    (IntKind.wrap .i64 ((c1 : Int) * 131 + c2 * 1117 + p * 29) = c1 * 131 + c2 * 1117 + p * 29) ∧
    (IntKind.wrap .i64 (q3 : Int) = q3) ∧
    (IntKind.wrap .i64 ((q3 : Int) * 53) = q3 * 53) ∧
    (IntKind.wrap .i64 ((c1 : Int) * 131 + c2 * 1117 + p * 29 + q3 * 53) = c1 * 131 + c2 * 1117 + p * 29 + q3 * 53) := by
  refine ⟨w64 ?_ ?_, w64 ?_ ?_, w64 ?_ ?_, w64 ?_ ?_, w64 ?_ ?_, w64 ?_ ?_, w64 ?_ ?_, w64 ?_ ?_, w64 ?_ ?_, w64 ?_ ?_, w64 ?_ ?_, w64 ?_ ?_⟩ <;> omega
end TL

/- Data of the program; the reader of codes. -/
set_option linter.unusedSimpArgs false
set_option linter.unusedVariables false
set_option maxRecDepth 100000
set_option maxHeartbeats 4000000
namespace TL
open Go Go.Proofs
structure Mark where
  kind : Int
  num : Int
  deriving DecidableEq
structure Claim where
  who : Int
  says : List Mark
  deriving DecidableEq
structure Place where
  people : Int
  story : List Claim
  deriving DecidableEq
/-- Numbers of the machine. -/
def fit (x : Int) : Prop := -9223372036854775808 ≤ x ∧ x < 9223372036854775808
def Mark.fit (m : Mark) : Prop := TL.fit m.kind ∧ TL.fit m.num
def fits (l : List Mark) : Prop := ∀ x ∈ l, x.fit
def Claim.fit (c : Claim) : Prop := TL.fit c.who ∧ fits c.says
def Place.fit (p : Place) : Prop := TL.fit p.people ∧ ∀ c ∈ p.story, c.fit
@[simp] theorem fits_nil : fits [] := by simp [fits]
@[simp] theorem fits_cons (x : Mark) (l : List Mark) : fits (x :: l) ↔ x.fit ∧ fits l := by simp [fits]
@[simp] theorem fits_append (a b : List Mark) : fits (a ++ b) ↔ fits a ∧ fits b := by simp [fits, or_imp, forall_and]
theorem fit_mk {k a : Int} (hk : 0 ≤ k) (hk' : k < 1000) (ha : 0 ≤ a) (ha' : a < 1000) : Mark.fit ⟨k, a⟩ := by
  refine ⟨⟨?_, ?_⟩, ⟨?_, ?_⟩⟩ <;> simp only <;> omega
def Mark.v (m : Mark) : V := .agg [.int .i64 m.kind, .int .i64 m.num]
@[simp] theorem mark_cells (m : Mark) : m.v.cells = [.int .i64 m.kind, .int .i64 m.num] := rfl
theorem drop_cons {α : Type} {l : List α} {i : Nat} (h : i < l.length) : l.drop i = l[i] :: l.drop (i + 1) := List.drop_eq_getElem_cons h
def marksV (l : List Mark) : V := .sl (l.map Mark.v)
def Claim.v (c : Claim) : V := .agg [.int .i64 c.who, marksV c.says]
def storyV (l : List Claim) : V := .sl (l.map Claim.v)
def Place.v (p : Place) : V := .agg [.int .i64 p.people, storyV p.story]
@[simp] theorem updM_idem (m : Mem) (d : Nat) (x y : Option Blk) : updM (updM m d x) d y = updM m d y := by
  funext t; simp only [updM_lit]; split <;> rfl
theorem updM_self {m : Mem} {d : Nat} {x : Option Blk} (h : m d = x) : updM m d x = m := by
  funext t; simp only [updM_lit]; split
  · rename_i e; rw [e, h]
  · rfl
def natOf : T → Nat
  | .v (.int _ k) => k.toNat
  | .sv _ _ n => n
  | _ => 0
@[simp] theorem natOf_int (k : IntKind) (x : Int) : natOf (.v (.int k x)) = x.toNat := rfl
@[simp] theorem natOf_sv (i c n : Nat) : natOf (.sv i c n) = n := rfl
/-- What lies from n on. -/
def upper (n : Nat) (m : Mem) : Mem := fun j => if n ≤ j then m j else none
@[simp] theorem upper_def (n j : Nat) (m : Mem) : upper n m j = if n ≤ j then m j else none := rfl
/-- A row in the frame's memory, or none yet. -/
def IsRow (m : Mem) (lo hi : Nat) (e : Nat) (st : T) (xs : List V) : Prop := (st = .nil ∧ xs = []) ∨ ∃ i, st = .loc i ∧ lo ≤ i ∧ i < hi ∧ m i = some (.arr e xs)
theorem IsRow.cell {m : Mem} {lo hi e : Nat} {st : T} {xs : List V} (h : IsRow m lo hi e st xs) : st.cell = true := by
  rcases h with ⟨rfl, _⟩ | ⟨i, rfl, _⟩ <;> rfl
theorem IsRow.bor {m m' : Mem} {lo hi e n0 : Nat} {st : T} {xs : List V} (h : IsRow m lo hi e st xs) (hn : n0 ≤ lo) (hm : ∀ i, st = .loc i → lo ≤ i → i < hi → m' i = m i) (d : Nat) : bor true (upper n0 m') d st = some (.sl xs) := by
  rcases h with ⟨rfl, rfl⟩ | ⟨i, rfl, h1, h2, h3⟩
  · simp
  · have : n0 ≤ i := by omega
    simp [hm i rfl h1 h2, h3, this]
theorem nes (n : Nat) : (¬ n = n + 1) ∧ (¬ n = n + 1 + 1) ∧ (¬ n = n + 1 + 1 + 1) ∧ (¬ n = n + 1 + 1 + 1 + 1) ∧ (¬ n = n + 1 + 1 + 1 + 1 + 1) ∧ (¬ n = n + 1 + 1 + 1 + 1 + 1 + 1) ∧ (¬ n = n + 1 + 1 + 1 + 1 + 1 + 1 + 1) ∧ (¬ n + 1 = n) ∧ (¬ n + 1 = n + 1 + 1) ∧ (¬ n + 1 = n + 1 + 1 + 1) ∧ (¬ n + 1 = n + 1 + 1 + 1 + 1) ∧ (¬ n + 1 = n + 1 + 1 + 1 + 1 + 1) ∧ (¬ n + 1 = n + 1 + 1 + 1 + 1 + 1 + 1) ∧ (¬ n + 1 = n + 1 + 1 + 1 + 1 + 1 + 1 + 1) ∧ (¬ n + 1 + 1 = n) ∧ (¬ n + 1 + 1 = n + 1) ∧ (¬ n + 1 + 1 = n + 1 + 1 + 1) ∧ (¬ n + 1 + 1 = n + 1 + 1 + 1 + 1) ∧ (¬ n + 1 + 1 = n + 1 + 1 + 1 + 1 + 1) ∧ (¬ n + 1 + 1 = n + 1 + 1 + 1 + 1 + 1 + 1) ∧ (¬ n + 1 + 1 = n + 1 + 1 + 1 + 1 + 1 + 1 + 1) ∧ (¬ n + 1 + 1 + 1 = n) ∧ (¬ n + 1 + 1 + 1 = n + 1) ∧ (¬ n + 1 + 1 + 1 = n + 1 + 1) ∧ (¬ n + 1 + 1 + 1 = n + 1 + 1 + 1 + 1) ∧ (¬ n + 1 + 1 + 1 = n + 1 + 1 + 1 + 1 + 1) ∧ (¬ n + 1 + 1 + 1 = n + 1 + 1 + 1 + 1 + 1 + 1) ∧ (¬ n + 1 + 1 + 1 = n + 1 + 1 + 1 + 1 + 1 + 1 + 1) ∧ (¬ n + 1 + 1 + 1 + 1 = n) ∧ (¬ n + 1 + 1 + 1 + 1 = n + 1) ∧ (¬ n + 1 + 1 + 1 + 1 = n + 1 + 1) ∧ (¬ n + 1 + 1 + 1 + 1 = n + 1 + 1 + 1) ∧ (¬ n + 1 + 1 + 1 + 1 = n + 1 + 1 + 1 + 1 + 1) ∧ (¬ n + 1 + 1 + 1 + 1 = n + 1 + 1 + 1 + 1 + 1 + 1) ∧ (¬ n + 1 + 1 + 1 + 1 = n + 1 + 1 + 1 + 1 + 1 + 1 + 1) ∧ (¬ n + 1 + 1 + 1 + 1 + 1 = n) ∧ (¬ n + 1 + 1 + 1 + 1 + 1 = n + 1) ∧ (¬ n + 1 + 1 + 1 + 1 + 1 = n + 1 + 1) ∧ (¬ n + 1 + 1 + 1 + 1 + 1 = n + 1 + 1 + 1) ∧ (¬ n + 1 + 1 + 1 + 1 + 1 = n + 1 + 1 + 1 + 1) ∧ (¬ n + 1 + 1 + 1 + 1 + 1 = n + 1 + 1 + 1 + 1 + 1 + 1) ∧ (¬ n + 1 + 1 + 1 + 1 + 1 = n + 1 + 1 + 1 + 1 + 1 + 1 + 1) ∧ (¬ n + 1 + 1 + 1 + 1 + 1 + 1 = n) ∧ (¬ n + 1 + 1 + 1 + 1 + 1 + 1 = n + 1) ∧ (¬ n + 1 + 1 + 1 + 1 + 1 + 1 = n + 1 + 1) ∧ (¬ n + 1 + 1 + 1 + 1 + 1 + 1 = n + 1 + 1 + 1) ∧ (¬ n + 1 + 1 + 1 + 1 + 1 + 1 = n + 1 + 1 + 1 + 1) ∧ (¬ n + 1 + 1 + 1 + 1 + 1 + 1 = n + 1 + 1 + 1 + 1 + 1) ∧ (¬ n + 1 + 1 + 1 + 1 + 1 + 1 = n + 1 + 1 + 1 + 1 + 1 + 1 + 1) ∧ (¬ n + 1 + 1 + 1 + 1 + 1 + 1 + 1 = n) ∧ (¬ n + 1 + 1 + 1 + 1 + 1 + 1 + 1 = n + 1) ∧ (¬ n + 1 + 1 + 1 + 1 + 1 + 1 + 1 = n + 1 + 1) ∧ (¬ n + 1 + 1 + 1 + 1 + 1 + 1 + 1 = n + 1 + 1 + 1) ∧ (¬ n + 1 + 1 + 1 + 1 + 1 + 1 + 1 = n + 1 + 1 + 1 + 1) ∧ (¬ n + 1 + 1 + 1 + 1 + 1 + 1 + 1 = n + 1 + 1 + 1 + 1 + 1) ∧ (¬ n + 1 + 1 + 1 + 1 + 1 + 1 + 1 = n + 1 + 1 + 1 + 1 + 1 + 1) := by
  refine ⟨?_, ?_, ?_, ?_, ?_, ?_, ?_, ?_, ?_, ?_, ?_, ?_, ?_, ?_, ?_, ?_, ?_, ?_, ?_, ?_, ?_, ?_, ?_, ?_, ?_, ?_, ?_, ?_, ?_, ?_, ?_, ?_, ?_, ?_, ?_, ?_, ?_, ?_, ?_, ?_, ?_, ?_, ?_, ?_, ?_, ?_, ?_, ?_, ?_, ?_, ?_, ?_, ?_, ?_, ?_, ?_⟩ <;> omega
theorem ft (b : Bool) : b = false ∨ b = true := by cases b <;> simp
theorem far {a n : Nat} (lt : a < n) : (¬ a = n) ∧ (¬ n = a) ∧ (∀ x0, ¬ a = n + x0) ∧ (∀ x0, ¬ n + x0 = a) ∧ (∀ x0 x1, ¬ a = n + x0 + x1) ∧ (∀ x0 x1, ¬ n + x0 + x1 = a) ∧ (∀ x0 x1 x2, ¬ a = n + x0 + x1 + x2) ∧ (∀ x0 x1 x2, ¬ n + x0 + x1 + x2 = a) ∧ (∀ x0 x1 x2 x3, ¬ a = n + x0 + x1 + x2 + x3) ∧ (∀ x0 x1 x2 x3, ¬ n + x0 + x1 + x2 + x3 = a) ∧ (∀ x0 x1 x2 x3 x4, ¬ a = n + x0 + x1 + x2 + x3 + x4) ∧ (∀ x0 x1 x2 x3 x4, ¬ n + x0 + x1 + x2 + x3 + x4 = a) ∧ (∀ x0 x1 x2 x3 x4 x5, ¬ a = n + x0 + x1 + x2 + x3 + x4 + x5) ∧ (∀ x0 x1 x2 x3 x4 x5, ¬ n + x0 + x1 + x2 + x3 + x4 + x5 = a) ∧ (∀ x0 x1 x2 x3 x4 x5 x6, ¬ a = n + x0 + x1 + x2 + x3 + x4 + x5 + x6) ∧ (∀ x0 x1 x2 x3 x4 x5 x6, ¬ n + x0 + x1 + x2 + x3 + x4 + x5 + x6 = a) ∧ (∀ x0 x1 x2 x3 x4 x5 x6 x7, ¬ a = n + x0 + x1 + x2 + x3 + x4 + x5 + x6 + x7) ∧ (∀ x0 x1 x2 x3 x4 x5 x6 x7, ¬ n + x0 + x1 + x2 + x3 + x4 + x5 + x6 + x7 = a) ∧ (∀ x0 x1 x2 x3 x4 x5 x6 x7 x8, ¬ a = n + x0 + x1 + x2 + x3 + x4 + x5 + x6 + x7 + x8) ∧ (∀ x0 x1 x2 x3 x4 x5 x6 x7 x8, ¬ n + x0 + x1 + x2 + x3 + x4 + x5 + x6 + x7 + x8 = a) ∧ (∀ x0 x1 x2 x3 x4 x5 x6 x7 x8 x9, ¬ a = n + x0 + x1 + x2 + x3 + x4 + x5 + x6 + x7 + x8 + x9) ∧ (∀ x0 x1 x2 x3 x4 x5 x6 x7 x8 x9, ¬ n + x0 + x1 + x2 + x3 + x4 + x5 + x6 + x7 + x8 + x9 = a) :=
  ⟨by omega, by omega, fun _ => by omega, fun _ => by omega, fun _ _ => by omega, fun _ _ => by omega, fun _ _ _ => by omega, fun _ _ _ => by omega, fun _ _ _ _ => by omega, fun _ _ _ _ => by omega, fun _ _ _ _ _ => by omega, fun _ _ _ _ _ => by omega, fun _ _ _ _ _ _ => by omega, fun _ _ _ _ _ _ => by omega, fun _ _ _ _ _ _ _ => by omega, fun _ _ _ _ _ _ _ => by omega, fun _ _ _ _ _ _ _ _ => by omega, fun _ _ _ _ _ _ _ _ => by omega, fun _ _ _ _ _ _ _ _ _ => by omega, fun _ _ _ _ _ _ _ _ _ => by omega, fun _ _ _ _ _ _ _ _ _ _ => by omega, fun _ _ _ _ _ _ _ _ _ _ => by omega⟩
end TL

/- Terms, claims, stories, places: what is one. -/
set_option linter.unusedSimpArgs false
set_option linter.unusedVariables false
set_option maxRecDepth 100000
set_option maxHeartbeats 4000000
set_option pp.maxSteps 1500
namespace TL
open Go Go.Proofs
attribute [local simp] marksV storyV codeV Claim.v Place.v
def peopleOk (p : Int) : Bool := decide (1 ≤ p) && decide (p ≤ 4)
def markStep (people : Int) (parts : Nat) (m : Mark) : Option Nat :=
  if m.kind = 0 then (if 0 ≤ m.num ∧ m.num < people then some (parts + 1) else none)
  else if m.kind = 1 then (if 0 ≤ m.num ∧ m.num ≤ people + 1 then some (parts + 1) else none)
  else if m.kind = 2 then (if m.num = 0 ∧ 1 ≤ parts then some parts else none)
  else if m.kind = 3 ∨ m.kind = 4 ∨ m.kind = 5 then (if m.num = 0 ∧ 2 ≤ parts then some (parts - 1) else none)
  else none
def marksRun (people : Int) : Nat → List Mark → Option Nat
  | parts, [] => some parts
  | parts, m :: ms => (markStep people parts m).bind fun q => marksRun people q ms
def termOk (people : Int) (t : List Mark) : Bool := peopleOk people && decide (1 ≤ t.length) && decide (t.length ≤ 15) && decide (marksRun people 0 t = some 1)
theorem markStep_le {people : Int} {parts q : Nat} {m : Mark} (h : markStep people parts m = some q) : q ≤ parts + 1 := by
  unfold markStep at h
  repeat' split at h
  all_goals first | (cases h; done) | (cases h; omega)
def TOI (people : Int) (t : List Mark) (a : Nat) (s : S) : Prop := ∃ (i parts : Nat), s.tm 0 = .v (.int .i64 people) ∧ s.tm 21 = .v (.sl (t.map Mark.v)) ∧ s.tm 22 = .v (.int .i64 t.length) ∧ s.tm 23 = .v (.int .i64 i) ∧ s.tm 5 = .v (.int .i64 parts) ∧ i ≤ t.length ∧ parts ≤ i ∧
  marksRun people parts (t.drop i) = marksRun people 0 t ∧ (a = 1 → i = t.length)
theorem termOk_fn (people : Int) (t : List Mark) : FnZ Tryd.prog 90 [.int .i64 people, marksV t] (.bool (termOk people t)) := by
  by_cases hp : 1 ≤ people ∧ people ≤ 4
  case neg =>
    have hk : peopleOk people = false := by simp only [peopleOk, Bool.and_eq_false_iff, decide_eq_false_iff_not]; omega
    have hr : termOk people t = false := by simp [termOk, hk]
    rw [hr]
    refine FnZ_of (rs := [.tmp 4]) false Tryd.func90 rfl rfl rfl rfl (Nat.le_of_ble_eq_true rfl) ?_
    simp -dsimp
    refine call_ (peopleOk_fn people) (by simp) ?_
    rw [show (decide (1 ≤ people) && decide (people ≤ 4)) = false from hk]
    simp -dsimp
  have hk : peopleOk people = true := by simp [peopleOk, hp]
  by_cases hl : 1 ≤ t.length ∧ t.length ≤ 15
  case neg =>
    have hr : termOk people t = false := by
      simp only [termOk, hk, Bool.true_and, Bool.and_eq_false_iff, decide_eq_false_iff_not]; omega
    rw [hr]
    refine FnZ_of (rs := [.tmp 4]) false Tryd.func90 rfl rfl rfl rfl (Nat.le_of_ble_eq_true rfl) ?_
    simp -dsimp
    refine call_ (peopleOk_fn people) (by simp) ?_
    rw [show (decide (1 ≤ people) && decide (people ≤ 4)) = true from hk]
    by_cases h0 : (t.length : Int) < 1
    · simp -dsimp [h0]
    · have h1 : (15 : Int) < t.length := by omega
      simp -dsimp [h0, h1]
  have h0 : ¬ (t.length : Int) < 1 := by omega
  have h1 : ¬ (15 : Int) < t.length := by omega
  have h1' : (t.length : Int) ≤ 15 := by omega
  have hr : termOk people t = decide (marksRun people 0 t = some 1) := by simp [termOk, hk, hl]
  rw [hr]
  refine FnZ_of (rs := [.tmp 4]) false Tryd.func90 rfl rfl rfl rfl (Nat.le_of_ble_eq_true rfl) ?_
  simp -dsimp
  refine call_ (peopleOk_fn people) (by simp) ?_
  rw [show (decide (1 ≤ people) && decide (people ≤ 4)) = true from hk]
  simp -dsimp [h0, h1, h1']
  refine twp_loopC (TOI people t 0) (fun s => t.length - natOf (s.tm 23)) (TOI people t 1) ?_ ?_ ?_
  · exact ⟨0, 0, by simp -dsimp, by simp -dsimp, by simp -dsimp, by simp -dsimp, by simp -dsimp, by simp, by simp, by simp, by simp⟩
  · rintro s ⟨i, parts, h0, h21, h22, h23, h5, hi, hpi, hrun, hend⟩
    by_cases hlt : i < t.length
    case neg =>
      simp -dsimp [h23, h22, hlt]
      exact ⟨i, parts, by simp [h0], by simp [h21], by simp [h22], by simp [h23], by simp [h5], hi, hpi, hrun, fun _ => by omega⟩
    have hget : (t.map Mark.v)[i]? = some (.agg [.int .i64 t[i].kind, .int .i64 t[i].num]) := by simp [Mark.v, hlt]
    have hstep := hrun
    rw [drop_cons hlt] at hstep
    simp only [marksRun] at hstep
    have wi : IntKind.wrap .i64 ((i : Int) + 1) = ((i + 1 : Nat) : Int) := by rw [w64 (by omega) (by omega)]; omega
    have wp : IntKind.wrap .i64 ((parts : Int) + 1) = ((parts + 1 : Nat) : Int) := by rw [w64 (by omega) (by omega)]; omega
    have wq : IntKind.wrap .i64 ((parts : Int) - 1) = if 1 ≤ parts then ((parts - 1 : Nat) : Int) else -1 := by rw [w64 (by omega) (by omega)]; split <;> omega
    have hmu : t.length - (i + 1) < t.length - i := by omega
    by_cases k0 : t[i].kind = 0
    · by_cases a0 : 0 ≤ t[i].num ∧ t[i].num < people
      · have hs : markStep people parts t[i] = some (parts + 1) := by simp [markStep, k0, a0]
        rw [hs] at hstep
        simp -dsimp [h0, h5, h23, h22, h21, hlt, hget, wi, wp, wq, k0, show ¬ t[i].num < 0 by omega, show ¬ people ≤ t[i].num by omega, hmu]
        exact ⟨i + 1, parts + 1, by simp -dsimp [h0], by simp -dsimp [h21], by simp -dsimp [h22], by simp -dsimp, by simp -dsimp [h5], by omega, by omega, hstep, by simp⟩
      · have hs : markStep people parts t[i] = none := by simp only [markStep, k0, if_neg a0, if_true]
        rw [hs] at hstep
        have hn : marksRun people 0 t = none := hstep.symm
        by_cases a1 : t[i].num < 0
        · simp -dsimp [h0, h5, h23, h22, h21, hlt, hget, wi, wp, wq, k0, a1, hn]
        · simp -dsimp [h0, h5, h23, h22, h21, hlt, hget, wi, wp, wq, k0, a1, hn, show people ≤ t[i].num by omega]
    by_cases k1 : t[i].kind = 1
    · have w1 : IntKind.wrap .i64 (people + 1) = people + 1 := w64 (by omega) (by omega)
      by_cases a0 : 0 ≤ t[i].num ∧ t[i].num ≤ people + 1
      · have hs : markStep people parts t[i] = some (parts + 1) := by simp [markStep, k1, a0]
        rw [hs] at hstep
        simp -dsimp [h0, h5, h23, h22, h21, hlt, hget, wi, wp, wq, k1, w1, show ¬ t[i].num < 0 by omega, show ¬ people + 1 < t[i].num by omega, hmu]
        exact ⟨i + 1, parts + 1, by simp -dsimp [h0], by simp -dsimp [h21], by simp -dsimp [h22], by simp -dsimp, by simp -dsimp [h5], by omega, by omega, hstep, by simp⟩
      · have hs : markStep people parts t[i] = none := by simp only [markStep, k1, if_neg a0, if_true]; simp
        rw [hs] at hstep
        have hn : marksRun people 0 t = none := hstep.symm
        by_cases a1 : t[i].num < 0
        · simp -dsimp [h0, h5, h23, h22, h21, hlt, hget, wi, wp, wq, k1, a1, hn]
        · simp -dsimp [h0, h5, h23, h22, h21, hlt, hget, wi, wp, wq, k1, a1, hn, w1, show people + 1 < t[i].num by omega]
    by_cases k2 : t[i].kind = 2
    · by_cases a0 : t[i].num = 0 ∧ 1 ≤ parts
      · have hs : markStep people parts t[i] = some (parts) := by simp [markStep, k2, a0]
        rw [hs] at hstep
        simp -dsimp [h0, h5, h23, h22, h21, hlt, hget, wi, wp, wq, k2, a0.1, show ¬ (parts : Int) < 1 by omega, show ¬ parts = 0 by omega, hmu]
        exact ⟨i + 1, parts, by simp -dsimp [h0], by simp -dsimp [h21], by simp -dsimp [h22], by simp -dsimp, by simp -dsimp [h5], by omega, by omega, hstep, by simp⟩
      · have hs : markStep people parts t[i] = none := by simp only [markStep, k2, if_neg a0, if_true]; simp
        rw [hs] at hstep
        have hn : marksRun people 0 t = none := hstep.symm
        by_cases a1 : t[i].num = 0
        · simp -dsimp [h0, h5, h23, h22, h21, hlt, hget, wi, wp, wq, k2, a1, hn, show (parts : Int) < 1 by omega, show parts = 0 by omega]
        · simp -dsimp [h0, h5, h23, h22, h21, hlt, hget, wi, wp, wq, k2, a1, hn]
    by_cases k3 : t[i].kind = 3 ∨ t[i].kind = 4 ∨ t[i].kind = 5
    · by_cases a0 : t[i].num = 0 ∧ 2 ≤ parts
      · have hs : markStep people parts t[i] = some (parts - 1) := by simp [markStep, k0, k1, k2, k3, a0]
        rw [hs] at hstep
        have e1 : ¬ (parts : Int) < 2 := by omega
        have e2 : 1 ≤ parts := by omega
        rcases k3 with k3 | k3 | k3
        all_goals
          simp -dsimp [h0, h5, h23, h22, h21, hlt, hget, wi, wp, wq, k3, a0.1, e1, e2, hmu]
          exact ⟨i + 1, parts - 1, by simp -dsimp [h0], by simp -dsimp [h21], by simp -dsimp [h22], by simp -dsimp, by simp -dsimp [h5], by omega, by omega, hstep, by simp⟩
      · have hs : markStep people parts t[i] = none := by simp only [markStep, if_neg k0, if_neg k1, if_neg k2, if_pos k3, if_neg a0]
        rw [hs] at hstep
        have hn : marksRun people 0 t = none := hstep.symm
        by_cases a1 : t[i].num = 0
        · have e1 : (parts : Int) < 2 := by omega
          rcases k3 with k3 | k3 | k3 <;> simp -dsimp [h0, h5, h23, h22, h21, hlt, hget, wi, wp, wq, k3, a1, hn, e1]
        · rcases k3 with k3 | k3 | k3 <;> simp -dsimp [h0, h5, h23, h22, h21, hlt, hget, wi, wp, wq, k3, a1, hn]
    · have hs : markStep people parts t[i] = none := by simp only [markStep, if_neg k0, if_neg k1, if_neg k2, if_neg k3]
      rw [hs] at hstep
      have hn : marksRun people 0 t = none := hstep.symm
      have k3' := not_or.1 k3
      have k4' := not_or.1 k3'.2
      simp -dsimp [h0, h5, h23, h22, h21, hlt, hget, wi, wp, wq, k0, k1, k2, k3'.1, k4'.1, k4'.2, hn]
  · rintro s ⟨i, parts, h0, h21, h22, h23, h5, hi, hpi, hrun, hend⟩
    simp -dsimp [h5]
    have := hend rfl
    subst this
    simp [marksRun] at hrun
    rw [← hrun]; simp; omega
end TL

/- spec: terms, claims, stories, places. -/
set_option linter.unusedSimpArgs false
set_option linter.unusedVariables false
set_option maxRecDepth 100000
set_option maxHeartbeats 4000000
set_option pp.maxSteps 1500
namespace TL
open Go Go.Proofs
attribute [local simp] marksV storyV codeV Claim.v Place.v
def inR (n a b : Int) : Bool := decide (a ≤ n) && decide (n ≤ b)
theorem inR_true {n a b : Int} : inR n a b = true ↔ a ≤ n ∧ n ≤ b := by simp [inR]
theorem inR_false {n a b : Int} : inR n a b = false ↔ ¬ (a ≤ n ∧ n ≤ b) := by rw [← inR_true]; cases inR n a b <;> simp
theorem l1In_fn (n a b : Int) : FnZ Tryd.prog 34 [.int .i64 n, .int .i64 a, .int .i64 b] (.bool (inR n a b)) := by
  unfold inR
  refine FnZ_of (rs := [.tmp 6]) false Tryd.func34 rfl rfl rfl rfl (Nat.le_of_ble_eq_true rfl) ?_
  by_cases h : a ≤ n <;> simp -dsimp [h]
theorem termOk_eq (people : Int) (t : List Mark) : termOk people t = (peopleOk people && decide (marksRun people 0 t = some 1) && decide (t.length ≤ 15)) := by
  cases t with
  | nil => simp [termOk, marksRun]
  | cons x xs =>
    rw [Bool.eq_iff_iff]
    simp only [termOk, Bool.and_eq_true, decide_eq_true_eq, List.length_cons]
    constructor
    · rintro ⟨⟨⟨h1, h2⟩, h3⟩, h4⟩; exact ⟨⟨h1, h4⟩, h3⟩
    · rintro ⟨⟨h1, h4⟩, h3⟩; exact ⟨⟨⟨h1, by omega⟩, h3⟩, h4⟩
def TOS (people : Int) (t : List Mark) (a : Nat) (s : S) : Prop := ∃ (i parts : Nat), s.tm 0 = .v (.int .i64 people) ∧ s.tm 1 = .v (.sl (t.map Mark.v)) ∧ s.tm 6 = .v (.int .i64 i) ∧ s.tm 5 = .v (.int .i64 parts) ∧ i ≤ t.length ∧ parts ≤ i ∧
  marksRun people parts (t.drop i) = marksRun people 0 t ∧ (a = 1 → i = t.length)
theorem termOkS_fn (people : Int) (t : List Mark) (hf : fits t) (hl : t.length < 1000000000000) : FnZ Tryd.prog 53 [.int .i64 people, marksV t] (.bool (termOk people t)) := by
  rw [termOk_eq]
  refine FnZ_of (rs := [.tmp 4]) false Tryd.func53 rfl rfl rfl rfl (Nat.le_of_ble_eq_true rfl) ?_
  simp -dsimp
  refine twp_loopC (TOS people t 0) (fun s => t.length - natOf (s.tm 6)) (TOS people t 1) ?_ ?_ ?_
  · exact ⟨0, 0, by simp -dsimp, by simp -dsimp, by simp -dsimp, by simp -dsimp, by simp, by simp, by simp, by simp⟩
  · rintro s ⟨i, parts, h0, h1, h6, h5, hi, hpi, hrun, hend⟩
    by_cases hlt : i < t.length
    case neg =>
      simp -dsimp [h1, h6, hlt]
      exact ⟨i, parts, by simp -dsimp [h0], by simp -dsimp [h1], by simp -dsimp [h6], by simp -dsimp [h5], hi, hpi, hrun, fun _ => by omega⟩
    have hget : (t.map Mark.v)[i]? = some (.agg [.int .i64 t[i].kind, .int .i64 t[i].num]) := by simp [Mark.v, hlt]
    have hv : t[i].v = .agg [.int .i64 t[i].kind, .int .i64 t[i].num] := rfl
    have hfi := hf t[i] (List.getElem_mem _)
    have hfa := hfi.2
    unfold TL.fit at hfa
    have hstep := hrun
    rw [drop_cons hlt] at hstep
    simp only [marksRun] at hstep
    have wi : IntKind.wrap .i64 ((i : Int) + 1) = ((i + 1 : Nat) : Int) := by rw [w64 (by omega) (by omega)]; omega
    have wp : IntKind.wrap .i64 ((parts : Int) + 1) = ((parts + 1 : Nat) : Int) := by rw [w64 (by omega) (by omega)]; omega
    have wq : 2 ≤ parts → IntKind.wrap .i64 ((parts : Int) - 1) = ((parts - 1 : Nat) : Int) := fun h => by rw [w64 (by omega) (by omega)]; omega
    have hmu : t.length - (i + 1) < t.length - i := by omega
    have bad : markStep people parts t[i] = none → marksRun people 0 t = none := fun hs => by rw [hs] at hstep; exact hstep.symm
    by_cases k0 : t[i].kind = 0
    · by_cases a0 : 0 ≤ t[i].num ∧ t[i].num < people
      · have hs : markStep people parts t[i] = some (parts + 1) := by simp [markStep, k0, a0]
        rw [hs] at hstep
        simp -dsimp [h0, h1, h5, h6, hlt, hget, wi, wp, k0, a0.1, a0.2, hmu]
        exact ⟨i + 1, parts + 1, by simp -dsimp [h0], by simp -dsimp [h1], by simp -dsimp, by simp -dsimp [h5], by omega, by omega, hstep, by simp⟩
      · have hn := bad (by simp only [markStep, k0, if_neg a0, if_true])
        by_cases a1 : 0 ≤ t[i].num
        · have a2 : ¬ t[i].num < people := by omega
          simp -dsimp [h0, h1, h5, h6, hlt, hget, wi, wp, k0, a1, a2]
          refine call_ (l1In_fn _ _ _) (by simp -dsimp <;> exact ⟨rfl, rfl, rfl⟩) ?_
          simp -dsimp [k0, hn, show inR 0 3 5 = false from rfl]
        · simp -dsimp [h0, h1, h5, h6, hlt, hget, wi, wp, k0, a1]
          refine call_ (l1In_fn _ _ _) (by simp -dsimp <;> exact ⟨rfl, rfl, rfl⟩) ?_
          simp -dsimp [k0, hn, show inR 0 3 5 = false from rfl]
    by_cases k1 : t[i].kind = 1
    · have w1 : IntKind.wrap .i64 (t[i].num - 1) = if 0 ≤ t[i].num then t[i].num - 1 else IntKind.wrap .i64 (t[i].num - 1) := by
        split
        · exact w64 (by omega) (by omega)
        · rfl
      by_cases a0 : 0 ≤ t[i].num ∧ t[i].num ≤ people + 1
      · have hs : markStep people parts t[i] = some (parts + 1) := by simp [markStep, k1, a0]
        rw [hs] at hstep
        have w2 : IntKind.wrap .i64 (t[i].num - 1) = t[i].num - 1 := w64 (by omega) (by omega)
        by_cases a1 : t[i].num ≤ people
        · simp -dsimp [h0, h1, h5, h6, hlt, hget, wi, wp, k1, a0.1, a1, hmu]
          exact ⟨i + 1, parts + 1, by simp -dsimp [h0], by simp -dsimp [h1], by simp -dsimp, by simp -dsimp [h5], by omega, by omega, hstep, by simp⟩
        · have a2 : t[i].num - 1 = people := by omega
          simp -dsimp [h0, h1, h5, h6, hlt, hget, wi, wp, k1, a0.1, show ¬ t[i].num ≤ people from a1, w2.trans a2, hmu]
          exact ⟨i + 1, parts + 1, by simp -dsimp [h0], by simp -dsimp [h1], by simp -dsimp, by simp -dsimp [h5], by omega, by omega, hstep, by simp⟩
      · have hn := bad (by simp only [markStep, k1, if_neg a0, if_true]; simp)
        by_cases a1 : 0 ≤ t[i].num
        · have a2 : ¬ t[i].num ≤ people := by omega
          have a3 : ¬ t[i].num - 1 = people := by omega
          have w2 : IntKind.wrap .i64 (t[i].num - 1) = t[i].num - 1 := w64 (by omega) (by omega)
          simp -dsimp [h0, h1, h5, h6, hlt, hget, wi, wp, k1, a1, a2, w2, a3]
          refine call_ (l1In_fn _ _ _) (by simp -dsimp <;> exact ⟨rfl, rfl, rfl⟩) ?_
          simp -dsimp [k1, hn, show inR 1 3 5 = false from rfl]
        · simp -dsimp [h0, h1, h5, h6, hlt, hget, wi, wp, k1, a1]
          refine call_ (l1In_fn _ _ _) (by simp -dsimp <;> exact ⟨rfl, rfl, rfl⟩) ?_
          simp -dsimp [k1, hn, show inR 1 3 5 = false from rfl]
    by_cases k2 : t[i].kind = 2
    · by_cases a0 : t[i].num = 0 ∧ 1 ≤ parts
      · have hs : markStep people parts t[i] = some parts := by simp [markStep, k2, a0]
        rw [hs] at hstep
        have e1 : (1 : Int) ≤ parts := by omega
        simp -dsimp [h0, h1, h5, h6, hlt, hget, wi, wp, hv, k2, a0.1, e1, hmu]
        exact ⟨i + 1, parts, by simp -dsimp [h0], by simp -dsimp [h1], by simp -dsimp, by simp -dsimp [h5], by omega, by omega, hstep, by simp⟩
      · have hn := bad (by simp only [markStep, k2, if_neg a0, if_true]; simp)
        by_cases a1 : t[i].num = 0
        · have e1 : ¬ (1 : Int) ≤ parts := by omega
          simp -dsimp [h0, h1, h5, h6, hlt, hget, wi, wp, hv, k2, a1, e1]
          refine call_ (l1In_fn _ _ _) (by simp -dsimp <;> exact ⟨rfl, rfl, rfl⟩) ?_
          simp -dsimp [k2, hn, show inR 2 3 5 = false from rfl]
        · simp -dsimp [h0, h1, h5, h6, hlt, hget, wi, wp, hv, k2, a1]
          refine call_ (l1In_fn _ _ _) (by simp -dsimp <;> exact ⟨rfl, rfl, rfl⟩) ?_
          simp -dsimp [k2, hn, show inR 2 3 5 = false from rfl]
    have hk2 : (decide (t[i].kind = 2)) = false := by simp [k2]
    by_cases k3 : t[i].kind = 3 ∨ t[i].kind = 4 ∨ t[i].kind = 5
    · have hin : inR t[i].kind 3 5 = true := inR_true.2 (by omega)
      by_cases a0 : t[i].num = 0 ∧ 2 ≤ parts
      · have hs : markStep people parts t[i] = some (parts - 1) := by simp [markStep, k0, k1, k2, k3, a0]
        rw [hs] at hstep
        have e1 : (2 : Int) ≤ parts := by omega
        have wq := wq a0.2
        simp -dsimp [h0, h1, h5, h6, hlt, hget, wi, wp, hv, k0, k1, k2]
        refine call_ (l1In_fn _ _ _) (by simp -dsimp <;> exact ⟨rfl, rfl, rfl⟩) ?_
        simp -dsimp [h0, h1, h5, h6, hlt, hget, wi, wp, hin, a0.1, e1, wq, hmu]
        exact ⟨i + 1, parts - 1, by simp -dsimp [h0], by simp -dsimp [h1], by simp -dsimp, by simp -dsimp [h5], by omega, by omega, hstep, by simp⟩
      · have hn := bad (by simp only [markStep, if_neg k0, if_neg k1, if_neg k2, if_pos k3, if_neg a0])
        simp -dsimp [h0, h1, h5, h6, hlt, hget, wi, wp, hv, k0, k1, k2]
        refine call_ (l1In_fn _ _ _) (by simp -dsimp <;> exact ⟨rfl, rfl, rfl⟩) ?_
        by_cases a1 : t[i].num = 0
        · have e1 : ¬ (2 : Int) ≤ parts := by omega
          simp -dsimp [h0, h1, h5, h6, hlt, hget, wi, wp, hin, a1, e1, hn]
        · simp -dsimp [h0, h1, h5, h6, hlt, hget, wi, wp, hin, a1, hn]
    · have hn := bad (by simp only [markStep, if_neg k0, if_neg k1, if_neg k2, if_neg k3])
      have hin : inR t[i].kind 3 5 = false := inR_false.2 (by omega)
      simp -dsimp [h0, h1, h5, h6, hlt, hget, wi, wp, hv, k0, k1, k2]
      refine call_ (l1In_fn _ _ _) (by simp -dsimp <;> exact ⟨rfl, rfl, rfl⟩) ?_
      simp -dsimp [hin, hn]
  · rintro s ⟨i, parts, h0, h1, h6, h5, hi, hpi, hrun, hend⟩
    have := hend rfl
    subst this
    simp [marksRun] at hrun
    simp -dsimp [h0]
    refine call_ (l1In_fn _ _ _) (by simp -dsimp <;> exact ⟨rfl, rfl, rfl⟩) ?_
    have hpk : inR people 1 4 = peopleOk people := rfl
    have hk := ft (peopleOk people)
    rcases hk with hk | hk
    · simp -dsimp [hpk, hk, ← hrun]
    · by_cases e1 : parts = 1
      · have e2 : (parts : Int) = 1 := by omega
        simp -dsimp [h1, h5, e1, hpk, hk, ← hrun]; omega
      · have e2 : ¬ (parts : Int) = 1 := by omega
        simp -dsimp [h1, h5, e1, e2, hpk, hk, ← hrun]
end TL

/- Terms as trees; their texts. -/
set_option linter.unusedSimpArgs false
set_option linter.unusedVariables false
set_option maxRecDepth 100000
set_option maxHeartbeats 4000000
set_option pp.maxSteps 1500
namespace TL
open Go Go.Proofs
attribute [local simp] marksV storyV codeV Claim.v Place.v
inductive Tm where
  | tells (i : Nat) | count (n : Nat) | not (a : Tm) | bin (k : Nat) (a b : Tm)
def Tm.marks : Tm → List Mark
  | .tells i => [⟨0, i⟩]
  | .count n => [⟨1, n⟩]
  | .not a => a.marks ++ [⟨2, 0⟩]
  | .bin k a b => a.marks ++ b.marks ++ [⟨3 + k, 0⟩]
def Tm.kind : Tm → Nat
  | .tells _ => 0
  | .count _ => 1
  | .not _ => 2
  | .bin k _ _ => 3 + k
def Tm.ok : Tm → Prop
  | .tells i => i < 4
  | .count n => n < 6
  | .not a => a.ok
  | .bin k a b => k < 3 ∧ a.ok ∧ b.ok
def par (b : Bool) (s : List UInt8) : List UInt8 := if b then 40 :: (s ++ [41]) else s
def sign (k : Nat) : UInt8 := if k = 0 then 38 else if k = 1 then 124 else 61
def Tm.text : Tm → List UInt8
  | .tells i => [UInt8.ofNat (97 + i)]
  | .count n => [UInt8.ofNat (48 + n)]
  | .not a => 33 :: par (decide (3 ≤ a.kind)) a.text
  | .bin k a b => par (decide (3 + k < a.kind)) a.text ++ sign k :: par (decide (3 + k ≤ b.kind)) b.text
theorem par_len (b : Bool) (s : List UInt8) : (par b s).length ≤ s.length + 2 := by unfold par; split <;> simp
theorem Tm.marks_pos : ∀ T : Tm, 1 ≤ T.marks.length
  | .tells _ => by simp [marks]
  | .count _ => by simp [marks]
  | .not a => by simp [marks]
  | .bin k a b => by simp [marks]; omega
theorem Tm.text_len : ∀ T : Tm, T.text.length ≤ 6 * T.marks.length
  | .tells _ => by simp [text, marks]
  | .count _ => by simp [text, marks]
  | .not a => by
    have := a.text_len; have := par_len (decide (3 ≤ a.kind)) a.text
    simp [text, marks] at *; omega
  | .bin k a b => by
    have := a.text_len; have := b.text_len; have := par_len (decide (3 + k < a.kind)) a.text; have := par_len (decide (3 + k ≤ b.kind)) b.text
    simp [text, marks] at *; omega
theorem Tm.last : ∀ T : Tm, ∃ pre m, T.marks = pre ++ [m] ∧ m.kind = (T.kind : Int)
  | .tells i => ⟨[], ⟨0, i⟩, rfl, rfl⟩
  | .count n => ⟨[], ⟨1, n⟩, rfl, rfl⟩
  | .not a => ⟨a.marks, ⟨2, 0⟩, rfl, rfl⟩
  | .bin k a b => ⟨a.marks ++ b.marks, ⟨3 + k, 0⟩, rfl, by simp [kind]⟩
theorem Tm.kinds : ∀ T : Tm, T.ok → ∀ m ∈ T.marks, 0 ≤ m.kind ∧ m.kind ≤ 5
  | .tells i, _, m, hm => by simp [marks] at hm; subst hm; simp
  | .count n, _, m, hm => by simp [marks] at hm; subst hm; simp
  | .not a, h, m, hm => by
    simp only [marks, List.mem_append, List.mem_singleton] at hm
    rcases hm with hm | rfl
    · exact a.kinds h m hm
    · simp
  | .bin k a b, h, m, hm => by
    simp only [marks, List.mem_append, List.mem_singleton] at hm
    rcases hm with (hm | hm) | rfl
    · exact a.kinds h.2.1 m hm
    · exact b.kinds h.2.2 m hm
    · have := h.1; simp; omega
/-! A row of marks that is a term is a tree. -/
def flat (st : List Tm) : List Mark := st.flatMap Tm.marks
theorem flat_append (a b : List Tm) : flat (a ++ b) = flat a ++ flat b := by simp [flat]
theorem last_of {α : Type} {l : List α} {n : Nat} (h : l.length = n + 1) : ∃ a x, l = a ++ [x] ∧ a.length = n := by
  have hne : l ≠ [] := by rintro rfl; simp at h
  refine ⟨l.dropLast, l.getLast hne, (List.dropLast_concat_getLast hne).symm, by simp [h]⟩
theorem run_tree {people : Int} (hp : people ≤ 4) : ∀ (ms : List Mark) (parts q : Nat) (st : List Tm), st.length = parts → (∀ T ∈ st, T.ok) → marksRun people parts ms = some q → ∃ st' : List Tm, st'.length = q ∧ (∀ T ∈ st', T.ok) ∧ flat st' = flat st ++ ms
  | [], parts, q, st, h1, h2, h3 => by
    simp [marksRun] at h3; exact ⟨st, by omega, h2, by simp⟩
  | m :: ms, parts, q, st, h1, h2, h3 => by
    simp only [marksRun] at h3
    cases e : markStep people parts m with
    | none => rw [e] at h3; cases h3
    | some r =>
      rw [e] at h3
      have go : ∀ st1 : List Tm, st1.length = r → (∀ T ∈ st1, T.ok) → flat st1 = flat st ++ [m] → ∃ st' : List Tm, st'.length = q ∧ (∀ T ∈ st', T.ok) ∧ flat st' = flat st ++ m :: ms := fun st1 a b c => by
        obtain ⟨st', x, y, z⟩ := run_tree hp ms r q st1 a b h3
        exact ⟨st', x, y, by rw [z, c]; simp⟩
      obtain ⟨k, a⟩ := m
      unfold markStep at e
      simp only at e
      split at e
      · rename_i hk; subst hk
        split at e
        · rename_i ha; cases e
          refine go (st ++ [.tells a.toNat]) (by simp; omega) ?_ ?_
          · intro T hT; rcases List.mem_append.1 hT with hT | hT
            · exact h2 T hT
            · cases List.mem_singleton.1 hT; show a.toNat < 4; omega
          · have : ((a.toNat : Nat) : Int) = a := by omega
            simp [flat, Tm.marks, this]
        · cases e
      split at e
      · rename_i hk; subst hk
        split at e
        · rename_i ha; cases e
          refine go (st ++ [.count a.toNat]) (by simp; omega) ?_ ?_
          · intro T hT; rcases List.mem_append.1 hT with hT | hT
            · exact h2 T hT
            · cases List.mem_singleton.1 hT; show a.toNat < 6; omega
          · have : ((a.toNat : Nat) : Int) = a := by omega
            simp [flat, Tm.marks, this]
        · cases e
      split at e
      · rename_i hk; subst hk
        split at e
        · rename_i ha; cases e
          obtain ⟨rfl, hp1⟩ := ha
          obtain ⟨st0, x, rfl, hx⟩ := last_of (l := st) (n := parts - 1) (by omega)
          refine go (st0 ++ [.not x]) (by simp at h1 ⊢; omega) ?_ ?_
          · intro T hT; rcases List.mem_append.1 hT with hT | hT
            · exact h2 T (List.mem_append_left _ hT)
            · cases List.mem_singleton.1 hT; exact h2 x (by simp)
          · simp [flat, Tm.marks]
        · cases e
      split at e
      · rename_i hk
        split at e
        · rename_i ha; cases e
          obtain ⟨rfl, hp1⟩ := ha
          obtain ⟨st0, y, rfl, hy⟩ := last_of (l := st) (n := parts - 1) (by omega)
          obtain ⟨st1, x, rfl, hx⟩ := last_of (l := st0) (n := parts - 2) (by omega)
          refine go (st1 ++ [.bin (k - 3).toNat x y]) (by simp at h1 ⊢; omega) ?_ ?_
          · intro T hT; rcases List.mem_append.1 hT with hT | hT
            · exact h2 T (by simp [hT])
            · cases List.mem_singleton.1 hT; exact ⟨by omega, h2 x (by simp), h2 y (by simp)⟩
          · have : (3 : Int) + ((k - 3).toNat : Nat) = k := by omega
            simp [flat, Tm.marks]; omega
        · cases e
      · cases e
theorem termOk_tree {people : Int} {t : List Mark} (h : termOk people t = true) : ∃ T : Tm, T.ok ∧ T.marks = t := by
  simp only [termOk, peopleOk, Bool.and_eq_true, decide_eq_true_eq] at h
  obtain ⟨st, h1, h2, h3⟩ := run_tree (by omega) t 0 1 [] rfl (by simp) h.2
  obtain ⟨T, rfl⟩ := List.length_eq_one_iff.1 h1
  exact ⟨T, h2 T (by simp), by simpa [flat] using h3⟩
/-! Where the last part begins. -/
def dl (m : Mark) : Int := if m.kind = 0 ∨ m.kind = 1 then -1 else if m.kind = 3 ∨ m.kind = 4 ∨ m.kind = 5 then 1 else 0
def dsum (l : List Mark) : Int := (l.map dl).sum
@[simp] theorem dsum_nil : dsum [] = 0 := rfl
@[simp] theorem dsum_cons (m : Mark) (l : List Mark) : dsum (m :: l) = dl m + dsum l := by simp [dsum]
@[simp] theorem dsum_append (a b : List Mark) : dsum (a ++ b) = dsum a + dsum b := by simp [dsum]
theorem dl_abs (m : Mark) : -1 ≤ dl m ∧ dl m ≤ 1 := by unfold dl; split <;> (try split) <;> omega
theorem dsum_abs : ∀ l : List Mark, -(l.length : Int) ≤ dsum l ∧ dsum l ≤ l.length
  | [] => by simp
  | m :: l => by have := dsum_abs l; have := dl_abs m; simp; omega
theorem Tm.scan : ∀ T : Tm, T.ok → dsum T.marks = -1 ∧ ∀ j, 1 ≤ j → 0 ≤ dsum (T.marks.drop j)
  | .tells i, _ => ⟨by simp [marks, dl], fun j hj => by rw [List.drop_eq_nil_of_le (by simp [marks]; omega)]; simp⟩
  | .count i, _ => ⟨by simp [marks, dl], fun j hj => by rw [List.drop_eq_nil_of_le (by simp [marks]; omega)]; simp⟩
  | .not a, h => by
    obtain ⟨h1, h2⟩ := a.scan h
    have e : dl ⟨2, 0⟩ = 0 := by simp [dl]
    refine ⟨by simp [marks, h1, e], fun j hj => ?_⟩
    have := h2 j hj
    have e3 : 0 ≤ dsum ([(⟨2, 0⟩ : Mark)].drop (j - a.marks.length)) := by
      rcases Nat.eq_zero_or_pos (j - a.marks.length) with h | h
      · rw [h]; simp [e]
      · rw [List.drop_eq_nil_of_le (by simp; omega)]; simp
    simp only [marks, List.drop_append, dsum_append]; omega
  | .bin k a b, h => by
    obtain ⟨h1, h2⟩ := a.scan h.2.1
    obtain ⟨h3, h4⟩ := b.scan h.2.2
    have e : dl ⟨3 + k, 0⟩ = 1 := by have := h.1; unfold dl; rw [if_neg (by simp; omega), if_pos (by simp; omega)]
    refine ⟨by simp [marks, h1, h3, e], fun j hj => ?_⟩
    have := h2 j hj
    simp only [marks, List.drop_append, dsum_append, List.length_append]
    rcases Nat.eq_zero_or_pos (j - a.marks.length) with h0 | h0
    · have e4 : j - (a.marks.length + b.marks.length) = 0 := by omega
      rw [h0, e4]; simp [h3, e]; omega
    · have := h4 _ h0
      have e3 : 0 ≤ dsum ([(⟨3 + k, 0⟩ : Mark)].drop (j - (a.marks.length + b.marks.length))) := by
        rcases Nat.eq_zero_or_pos (j - (a.marks.length + b.marks.length)) with h | h
        · rw [h]; simp [e]
        · rw [List.drop_eq_nil_of_le (by simp; omega)]; simp
      omega
def Ilp (l : List Mark) (p : Nat) (s : S) : Prop := ∃ i : Nat, s.tm 0 = .v (.sl (l.map Mark.v)) ∧ s.tm 4 = .v (.int .i64 i) ∧ i < l.length ∧ p ≤ i ∧ s.tm 3 = .v (.int .i64 (1 + dsum (l.drop (i + 1))))
theorem lastPart_fn (pre : List Mark) (T : Tm) (hok : T.ok) (hl : (pre ++ T.marks).length ≤ 1048576) : FnZ Tryd.prog 92 [marksV (pre ++ T.marks)] (.int .i64 pre.length) := by
  obtain ⟨s1, s2⟩ := T.scan hok
  have hpos := T.marks_pos
  have d1 : dsum ((pre ++ T.marks).drop pre.length) = -1 := by simpa using s1
  have d2 : ∀ i, pre.length < i → 0 ≤ dsum ((pre ++ T.marks).drop i) := fun i hi => by
    rw [List.drop_append, List.drop_eq_nil_of_le (by omega), List.nil_append]; exact s2 _ (by omega)
  have hlen : pre.length < (pre ++ T.marks).length := by simp; omega
  generalize pre ++ T.marks = l at *
  generalize pre.length = p at *
  have w1 : IntKind.wrap .i64 ((l.length : Int) - 1) = ((l.length - 1 : Nat) : Int) := by rw [w64 (by omega) (by omega)]; omega
  refine FnZ_of (rs := [.tmp 2]) false Tryd.func92 rfl rfl rfl rfl (Nat.le_of_ble_eq_true rfl) ?_
  simp -dsimp [w1]
  refine twp_loop (Ilp l p) (fun s => natOf (s.tm 4)) ?_ ?_
  · refine ⟨l.length - 1, by simp -dsimp, by simp -dsimp, by omega, by omega, ?_⟩
    have e : l.drop (l.length - 1 + 1) = [] := List.drop_eq_nil_of_le (by omega)
    rw [e]; simp -dsimp
  · rintro s ⟨i, t0, t4, hi, hpi, t3⟩
    have hget : (l.map Mark.v)[i]? = some (l[i].v) := by simp [hi]
    have hd : dsum (l.drop i) = dl l[i] + dsum (l.drop (i + 1)) := by rw [drop_cons hi, dsum_cons]
    have habs := dsum_abs (l.drop (i + 1))
    rw [List.length_drop] at habs
    have hN0 := d2 (i + 1) (by omega)
    generalize hN : dsum (l.drop (i + 1)) = N at *
    have wn : IntKind.wrap .i64 (1 + N - 1) = N := by rw [w64 (by omega) (by omega)]; omega
    have wn' : IntKind.wrap .i64 N = N := w64 (by omega) (by omega)
    have wp : IntKind.wrap .i64 (1 + N + 1) = 1 + N + 1 := w64 (by omega) (by omega)
    have z1 : ¬ 1 + N = 0 := by omega
    have z2 : ¬ 1 + N + 1 = 0 := by omega
    have again : ∀ (s' : S) (x : Int), 0 < i → x = 1 + dsum (l.drop i) → s'.tm 0 = .v (.sl (l.map Mark.v)) → s'.tm 4 = .v (.int .i64 ((i - 1 : Nat) : Int)) → p ≤ i - 1 → s'.tm 3 = .v (.int .i64 x) → Ilp l p s' := fun s' x h0 hx a0 a4 hp a3 =>
      ⟨i - 1, a0, a4, by omega, hp, by rw [a3, hx, show i - 1 + 1 = i by omega]⟩
    have hmu : 0 < i → i - 1 < i := fun h => by omega
    have mins : dl l[i] = -1 → (N = 0 → i = p) ∧ (¬ N = 0 → p < i) := fun h => by
      constructor
      · intro h0
        by_cases hip : i = p
        · exact hip
        · have := d2 i (by omega); omega
      · intro h0
        by_cases hip : i = p
        · subst hip; omega
        · omega
    have plus : 0 ≤ dl l[i] → p < i := fun h => by
      by_cases hip : i = p
      · subst hip; omega
      · omega
    have wi : 0 < i → IntKind.wrap .i64 ((i : Int) - 1) = ((i - 1 : Nat) : Int) := fun h => by rw [w64 (by omega) (by omega)]; omega
    by_cases k01 : l[i].kind = 0 ∨ l[i].kind = 1
    · have hdl : dl l[i] = -1 := by unfold dl; rw [if_pos k01]
      obtain ⟨m1, m2⟩ := mins hdl
      by_cases hz : N = 0
      · have hip := m1 hz
        subst hip
        rcases k01 with k | k <;> simp -dsimp [t0, t3, t4, hi, hget, k, wn, wn', hz, show IntKind.wrap .i64 0 = 0 from rfl]
      · have hip := m2 hz
        have h0i : 0 < i := by omega
        have wi := wi h0i
        have hmu := hmu h0i
        rcases k01 with k | k
        · simp -dsimp [t0, t3, t4, hi, hget, k, wn, wn', hz, wi, hmu]
          exact again _ N h0i (by omega) (by simp -dsimp [t0]) (by simp -dsimp) (by omega) (by simp -dsimp)
        · simp -dsimp [t0, t3, t4, hi, hget, k, wn, wn', hz, wi, hmu]
          exact again _ N h0i (by omega) (by simp -dsimp [t0]) (by simp -dsimp) (by omega) (by simp -dsimp)
    have k0 := (not_or.1 k01).1
    have k1 := (not_or.1 k01).2
    by_cases k345 : l[i].kind = 3 ∨ l[i].kind = 4 ∨ l[i].kind = 5
    · have hdl : dl l[i] = 1 := by unfold dl; rw [if_neg k01, if_pos k345]
      have hip := plus (by omega)
      have h0i : 0 < i := by omega
      have wi := wi h0i
      have hmu := hmu h0i
      rcases k345 with k | k | k
      all_goals
        simp -dsimp [t0, t3, t4, hi, hget, k, wp, z2, wi, hmu]
        exact again _ (1 + N + 1) h0i (by omega) (by simp -dsimp [t0]) (by simp -dsimp) (by omega) (by simp -dsimp)
    · have hdl : dl l[i] = 0 := by unfold dl; rw [if_neg k01, if_neg k345]
      have hip := plus (by omega)
      have h0i : 0 < i := by omega
      have wi := wi h0i
      have hmu := hmu h0i
      have k3 := (not_or.1 k345).1
      have k4 := (not_or.1 (not_or.1 k345).2).1
      have k5 := (not_or.1 (not_or.1 k345).2).2
      simp -dsimp [t0, t3, t4, hi, hget, k0, k1, k3, k4, k5, z1, wi, hmu]
      exact again _ (1 + N) h0i (by omega) (by simp -dsimp [t0]) (by simp -dsimp) (by omega) (by simp -dsimp [t3])
def intOf : T → Int
  | .v (.int _ z) => z
  | _ => 0
@[simp] theorem intOf_int (k : IntKind) (z : Int) : intOf (.v (.int k z)) = z := rfl
def Ils (l : List Mark) (p e : Nat) (B : List Mark) (x : Nat) (s : S) : Prop := ∃ i : Nat, s.tm 0 = .v (.sl (l.map Mark.v)) ∧ s.tm 6 = .v (.int .i64 ((p : Int) + i - 1)) ∧ i ≤ B.length ∧ s.tm 5 = .v (.int .i64 (1 + dsum (B.drop i))) ∧ (x = 1 → i = 0)
theorem l2Starts_fn (pre rest : List Mark) (T : Tm) (hok : T.ok) (hl : (pre ++ T.marks ++ rest).length ≤ 1048576) :
    FnZ Tryd.prog 83 [marksV (pre ++ T.marks ++ rest), .int .i64 ((pre.length : Int) + T.marks.length - 1)] (.int .i64 pre.length) := by
  obtain ⟨s1, s2⟩ := T.scan hok
  have hpos := T.marks_pos
  have hk := T.kinds hok
  have hget : ∀ i, i < T.marks.length → ∃ m, T.marks[i]? = some m ∧ 0 ≤ m.kind ∧ m.kind ≤ 5 ∧ (pre ++ T.marks ++ rest)[pre.length + i]? = some m := fun i hi => by
    refine ⟨T.marks[i], List.getElem?_eq_getElem hi, (hk _ (List.getElem_mem _)).1, (hk _ (List.getElem_mem _)).2, ?_⟩
    rw [List.append_assoc, List.getElem?_append_right (by omega), List.getElem?_append_left (by omega)]
    rw [show pre.length + i - pre.length = i by omega, List.getElem?_eq_getElem hi]
  have hlen : pre.length + T.marks.length ≤ (pre ++ T.marks ++ rest).length := by simp
  generalize pre ++ T.marks ++ rest = l at *
  generalize pre.length = p at *
  generalize T.marks = B at *
  refine FnZ_of (rs := [.tmp 4]) false Tryd.func83 rfl rfl rfl rfl (Nat.le_of_ble_eq_true rfl) ?_
  simp -dsimp
  refine twp_loopC (Ils l p 0 B 0) (fun s => (intOf (s.tm 6) - p + 1).toNat) (Ils l p 0 B 1) ?_ ?_ ?_
  · refine ⟨B.length, by simp -dsimp, by simp -dsimp, by omega, ?_, by simp⟩
    rw [List.drop_length]; simp -dsimp
  · rintro s ⟨i, t0, t6, hi, t5, hx⟩
    by_cases hi0 : i = 0
    · subst hi0
      rw [List.drop_zero, s1] at t5
      simp -dsimp [t5]
      exact ⟨0, by simp -dsimp [t0], by simp -dsimp [t6], hi, by rw [List.drop_zero, s1]; simp -dsimp [t5], fun _ => rfl⟩
    have hN := s2 i (by omega)
    obtain ⟨m, hm1, hm2, hm3, hm4⟩ := hget (i - 1) (by omega)
    have hd : dsum (B.drop (i - 1)) = dl m + dsum (B.drop i) := by
      have hlt : i - 1 < B.length := by omega
      rw [drop_cons hlt, dsum_cons, show i - 1 + 1 = i by omega]
      rw [List.getElem?_eq_getElem hlt] at hm1
      cases hm1; rfl
    have habs := dsum_abs (B.drop i)
    rw [List.length_drop] at habs
    generalize hNN : dsum (B.drop i) = N at *
    have hz : 0 < 1 + N := by omega
    obtain ⟨q, hq⟩ : ∃ q : Nat, q = p + (i - 1) := ⟨_, rfl⟩
    have idx : ((p : Int) + i - 1) = (q : Int) := by omega
    rw [← hq] at hm4
    have wn : IntKind.wrap .i64 (1 + N - 1) = 1 + N - 1 := w64 (by omega) (by omega)
    have wn' : IntKind.wrap .i64 N = N := w64 (by omega) (by omega)
    have wp : IntKind.wrap .i64 (1 + N + 1) = 1 + N + 1 := w64 (by omega) (by omega)
    have wi : IntKind.wrap .i64 ((q : Int) - 1) = (p : Int) + (i - 1 : Nat) - 1 := by rw [w64 (by omega) (by omega)]; omega
    have again : ∀ (s' : S) (x : Int), x = 1 + dsum (B.drop (i - 1)) → s'.tm 0 = .v (.sl (l.map Mark.v)) → s'.tm 6 = .v (.int .i64 ((p : Int) + (i - 1 : Nat) - 1)) → s'.tm 5 = .v (.int .i64 x) → Ils l p 0 B 0 s' := fun s' x hx a0 a6 a5 =>
      ⟨i - 1, a0, a6, by omega, by rw [a5, hx], by simp⟩
    rw [idx] at t6
    have hmu : ((p : Int) + (i - 1 : Nat) - 1 - p + 1).toNat < ((q : Int) - p + 1).toNat := by omega
    by_cases k1 : m.kind ≤ 1
    · have hdl : dl m = -1 := by unfold dl; rw [if_pos (by omega)]
      simp -dsimp [t0, t5, t6, hz, hm4, k1, wn, wi]
      refine ⟨again _ (1 + N - 1) (by omega) (by simp -dsimp [t0]) (by simp -dsimp) (by simp -dsimp [t5]), ?_⟩
      omega
    · have k2 : ¬ m.kind ≤ 1 := k1
      by_cases k3 : 2 < m.kind
      · have hdl : dl m = 1 := by unfold dl; rw [if_neg (by omega), if_pos (by omega)]
        simp -dsimp [t0, t5, t6, hz, hm4, k2, k3, wp, wi]
        refine ⟨again _ (1 + N + 1) (by omega) (by simp -dsimp [t0]) (by simp -dsimp) (by simp -dsimp [t5]), ?_⟩
        omega
      · have hdl : dl m = 0 := by unfold dl; rw [if_neg (by omega), if_neg (by omega)]
        simp -dsimp [t0, t5, t6, hz, hm4, k2, k3, wi]
        refine ⟨again _ (1 + N) (by omega) (by simp -dsimp [t0]) (by simp -dsimp) (by simp -dsimp [t5]), ?_⟩
        omega
  · rintro s ⟨i, t0, t6, hi, t5, hx⟩
    have := hx rfl
    subst this
    have w : IntKind.wrap .i64 ((p : Int) + (0 : Nat) - 1 + 1) = p := by rw [w64 (by omega) (by omega)]; omega
    simp -dsimp [t6]
    exact w64 (by omega) (by omega)
/-! The texts. -/
def Ihe (l : List Mark) (st : List UInt8) (ks : List Int) (m : Mark) (s : S) : Prop := ∃ i : Nat, s.tm 0 = .v (.sl (l.map Mark.v)) ∧ s.tm 5 = .v (.str st) ∧ s.tm 10 = .v (.sl (ks.map (V.int .i64))) ∧ s.tm 11 = .v (.int .i64 ks.length) ∧ s.tm 12 = .v (.int .i64 i) ∧ i ≤ ks.length ∧ m.kind ∉ ks.take i
theorem held_fn (l : List Mark) (st : List UInt8) (pre : List Mark) (m : Mark) (ks : List Int) (hlast : l = pre ++ [m]) (h : FnZ Tryd.prog 66 [marksV l] (.str st)) (hs : st.length ≤ 1000000000) (hl : l.length ≤ 1048576) (hks : ks.length ≤ 10) :
    FnZ Tryd.prog 91 [marksV l, .sl (ks.map (V.int .i64))] (.str (par (decide (m.kind ∈ ks)) st)) := by
  have hlen : l.length = pre.length + 1 := by rw [hlast]; simp
  have hget : l[pre.length]? = some m := by rw [hlast]; simp
  have w1 : IntKind.wrap .i64 ((l.length : Int) - 1) = (pre.length : Int) := by rw [w64 (by omega) (by omega)]; omega
  have b1 : (1 : Int) + st.length ≤ 9223372036854775807 := by omega
  have b2 : (st.length : Int) + 1 + 1 ≤ 9223372036854775807 := by omega
  generalize pre.length = n at *
  refine FnZ_of (rs := [.tmp 4]) false Tryd.func91 rfl rfl rfl rfl (Nat.le_of_ble_eq_true rfl) ?_
  simp -dsimp
  refine call_ h (by simp -dsimp) ?_
  simp -dsimp
  refine twp_loopC (Ihe l st ks m) (fun s => ks.length - natOf (s.tm 12))
    (fun s => s.tm 5 = .v (.str st) ∧ m.kind ∉ ks) ?_ ?_ ?_
  · exact ⟨0, by simp -dsimp, by simp -dsimp, by simp -dsimp, by simp -dsimp, by simp -dsimp, by omega, by simp⟩
  · rintro s ⟨i, t0, t5, t10, t11, t12, hi, hn⟩
    by_cases hlt : i < ks.length
    case neg =>
      have : i = ks.length := by omega
      subst this
      rw [List.take_length] at hn
      simp -dsimp [t11, t12]
      exact ⟨by simp -dsimp [t5], hn⟩
    have hk : (ks.map (V.int .i64))[i]? = some (.int .i64 ks[i]) := by simp [hlt]
    have wi : IntKind.wrap .i64 ((i : Int) + 1) = ((i + 1 : Nat) : Int) := by rw [w64 (by omega) (by omega)]; omega
    have hmu : ks.length - (i + 1) < ks.length - i := by omega
    by_cases he : m.kind = ks[i]
    · have hin : m.kind ∈ ks := by rw [he]; exact List.getElem_mem _
      have he' : (m.kind = ks[i]) = True := eq_true he
      simp -dsimp [t0, t5, t10, t11, t12, hlt, hk, w1, hget, he', par, hin, b1, b2]
    · have hn' : m.kind ∉ ks.take (i + 1) := by
        rw [List.take_succ_eq_append_getElem hlt, List.mem_append, List.mem_singleton]
        exact not_or.2 ⟨hn, he⟩
      simp -dsimp [t0, t5, t10, t11, t12, hlt, hk, w1, hget, he, wi, hmu]
      exact ⟨i + 1, by simp -dsimp [t0], by simp -dsimp [t5], by simp -dsimp [t10], by simp -dsimp [t11], by simp -dsimp, by omega, hn'⟩
  · rintro s ⟨t5, hn⟩
    simp -dsimp [t5, par, hn]
end TL

/- Reading terms: the plain part. -/
set_option linter.unusedSimpArgs false
set_option linter.unusedVariables false
set_option maxRecDepth 100000
namespace TL
/-- What a reader has read: marks, what is left, whether it was one. -/
structure R where
  ms : List Mark
  rest : List UInt8
  ok : Bool
def rLoop (p : List UInt8 → R) (sg : UInt8) (k : Int) : Nat → List Mark → List UInt8 → R
  | 0, t, s => ⟨t, s, true⟩
  | _ + 1, t, [] => ⟨t, [], true⟩
  | g + 1, t, c :: more => if c = sg then (if (p more).ok = true then rLoop p sg k g (t ++ (p more).ms ++ [⟨k, 0⟩]) (p more).rest else ⟨[], (p more).rest, false⟩) else ⟨t, c :: more, true⟩
def rRow (p : List UInt8 → R) (sg : UInt8) (k : Int) (g : Nat) (s : List UInt8) : R := if (p s).ok = true then rLoop p sg k g (p s).ms (p s).rest else ⟨[], (p s).rest, false⟩
def shut (r : R) : R := match r.rest with
  | [] => ⟨r.ms, [], false⟩
  | c :: q => if c = 41 then ⟨r.ms, q, r.ok⟩ else ⟨r.ms, c :: q, false⟩
def rPart (A : UInt8 → Option Mark) : Nat → List UInt8 → R
  | 0, s => ⟨[], s, false⟩
  | _ + 1, [] => ⟨[], [], false⟩
  | f + 1, c :: s => match A c with
    | some m => ⟨[m], s, true⟩
    | none => if c = 33 then ⟨(rPart A f s).ms ++ [⟨2, 0⟩], (rPart A f s).rest, (rPart A f s).ok⟩
      else if c = 40 then shut (rRow (rRow (rRow (rPart A f) 38 3 f) 124 4 f) 61 5 f s)
      else ⟨[], c :: s, false⟩
def rAnd (A : UInt8 → Option Mark) (f : Nat) (s : List UInt8) : R := rRow (rPart A f) 38 3 f s
def rOr (A : UInt8 → Option Mark) (f : Nat) (s : List UInt8) : R := rRow (rAnd A f) 124 4 f s
def rSame (A : UInt8 → Option Mark) (f : Nat) (s : List UInt8) : R := rRow (rOr A f) 61 5 f s
theorem rPart_open (A : UInt8 → Option Mark) (f : Nat) (s : List UInt8) (h : A 40 = none) : rPart A (f + 1) (40 :: s) = shut (rSame A f s) := by
  show (match A 40 with
    | some m => _
    | none => _) = _
  rw [h]; rfl
theorem rPart_not (A : UInt8 → Option Mark) (f : Nat) (s : List UInt8) (h : A 33 = none) : rPart A (f + 1) (33 :: s) = ⟨(rPart A f s).ms ++ [⟨2, 0⟩], (rPart A f s).rest, (rPart A f s).ok⟩ := by
  show (match A 33 with
    | some m => _
    | none => _) = _
  rw [h]; rfl
theorem rPart_one (A : UInt8 → Option Mark) (f : Nat) (c : UInt8) (s : List UInt8) (m : Mark) (h : A c = some m) : rPart A (f + 1) (c :: s) = ⟨[m], s, true⟩ := by
  show (match A c with
    | some m => _
    | none => _) = _
  rw [h]
/-! How much is read, and what marks there are. -/
def good (p : List UInt8 → R) : Prop := ∀ s, (p s).ms.length + (p s).rest.length ≤ s.length ∧ ∀ m ∈ (p s).ms, 0 ≤ m.kind ∧ m.kind ≤ 5 ∧ 0 ≤ m.num ∧ m.num ≤ 1000
theorem rLoop_good {p : List UInt8 → R} (hp : good p) {sg : UInt8} {k : Int} (h0 : 0 ≤ k) (h5 : k ≤ 5) : ∀ (g : Nat) (t : List Mark) (s : List UInt8), (∀ m ∈ t, 0 ≤ m.kind ∧ m.kind ≤ 5 ∧ 0 ≤ m.num ∧ m.num ≤ 1000) →
    (rLoop p sg k g t s).ms.length + (rLoop p sg k g t s).rest.length ≤ t.length + s.length ∧ ∀ m ∈ (rLoop p sg k g t s).ms, 0 ≤ m.kind ∧ m.kind ≤ 5 ∧ 0 ≤ m.num ∧ m.num ≤ 1000
  | 0, t, s, h => ⟨by simp [rLoop], h⟩
  | g + 1, t, [], h => ⟨by simp [rLoop], h⟩
  | g + 1, t, c :: more, h => by
    simp only [rLoop]
    have := (hp more).1
    split
    · split
      · have ih := rLoop_good hp (sg := sg) h0 h5 g (t ++ (p more).ms ++ [⟨k, 0⟩]) (p more).rest (fun m hm => by
          rcases List.mem_append.1 hm with hm | hm
          · rcases List.mem_append.1 hm with hm | hm
            · exact h m hm
            · exact (hp more).2 m hm
          · cases List.mem_singleton.1 hm; exact ⟨h0, h5, by simp, by simp⟩)
        refine ⟨?_, ih.2⟩
        have := ih.1
        simp at this ⊢; omega
      · refine ⟨by simp; omega, by simp⟩
    · exact ⟨by simp, h⟩
theorem rRow_good {p : List UInt8 → R} (hp : good p) {sg : UInt8} {k : Int} (h0 : 0 ≤ k) (h5 : k ≤ 5) (g : Nat) : good (rRow p sg k g) := fun s => by
  have := hp s
  unfold rRow
  split
  · have h := rLoop_good hp (sg := sg) h0 h5 g (p s).ms (p s).rest this.2
    exact ⟨by omega, h.2⟩
  · exact ⟨by simp; omega, by simp⟩
theorem shut_good {r : R} {n : Nat} (h : r.ms.length + r.rest.length ≤ n) : (shut r).ms.length + (shut r).rest.length ≤ n ∧ (shut r).ms = r.ms := by
  unfold shut
  split
  · rename_i e; rw [e] at h; exact ⟨by simpa using h, rfl⟩
  · rename_i e; rw [e] at h
    split
    · exact ⟨by simp at h ⊢; omega, rfl⟩
    · exact ⟨by simpa using h, rfl⟩
theorem rPart_good {A : UInt8 → Option Mark} (hA : ∀ c m, A c = some m → 0 ≤ m.kind ∧ m.kind ≤ 5 ∧ 0 ≤ m.num ∧ m.num ≤ 1000) : ∀ f, good (rPart A f)
  | 0 => fun s => ⟨by simp [rPart], by simp [rPart]⟩
  | f + 1 => fun s => by
    have ih := rPart_good hA f
    cases s with
    | nil => exact ⟨by simp [rPart], by simp [rPart]⟩
    | cons c s =>
      simp only [rPart]
      split
      · rename_i m e; exact ⟨by simp; omega, fun x hx => by cases List.mem_singleton.1 hx; exact hA c m e⟩
      split
      · have := ih s
        refine ⟨by simp; omega, fun x hx => ?_⟩
        rcases List.mem_append.1 hx with hx | hx
        · exact this.2 x hx
        · cases List.mem_singleton.1 hx; simp
      split
      · have g3 := rRow_good (rRow_good (rRow_good ih (sg := 38) (k := 3) (by omega) (by omega) f) (sg := 124) (k := 4) (by omega) (by omega) f) (sg := 61) (k := 5) (by omega) (by omega) f s
        have h := shut_good (n := s.length) g3.1
        refine ⟨by simp only [List.length_cons]; omega, ?_⟩
        rw [h.2]; exact g3.2
      · exact ⟨by simp, by simp⟩
/-! What was written is read. -/
def noHead (sg : UInt8) (r : List UInt8) : Prop := r.head? ≠ some sg
theorem rLoop_stop {p : List UInt8 → R} {sg : UInt8} {k : Int} (g : Nat) (t : List Mark) {r : List UInt8} (h : noHead sg r) : rLoop p sg k g t r = ⟨t, r, true⟩ := by
  cases g with
  | zero => rfl
  | succ g =>
    cases r with
    | nil => rfl
    | cons c r => simp only [rLoop]; rw [if_neg (fun e => h (by rw [e]; rfl))]
theorem rLoop_step {p : List UInt8 → R} {sg : UInt8} {k : Int} {g : Nat} {t u : List Mark} {s r : List UInt8} (hg : (sg :: s).length ≤ g) (hr : r.length ≤ s.length) (h : p s = ⟨u, r, true⟩) :
    ∃ g', r.length ≤ g' ∧ rLoop p sg k g t (sg :: s) = rLoop p sg k g' (t ++ u ++ [⟨k, 0⟩]) r := by
  cases g with
  | zero => simp at hg
  | succ g =>
    refine ⟨g, by simp at hg; omega, ?_⟩
    simp only [rLoop, if_true, h]
theorem rRow_up {p : List UInt8 → R} {sg : UInt8} {k : Int} {g : Nat} {t : List Mark} {s r : List UInt8} (h : p s = ⟨t, r, true⟩) : rRow p sg k g s = rLoop p sg k g t r := by
  unfold rRow; rw [h]; rfl
structure AOk (A : UInt8 → Option Mark) : Prop where
  letter : ∀ i : Nat, i < 4 → A (UInt8.ofNat (97 + i)) = some ⟨0, i⟩
  digit : ∀ i : Nat, i < 6 → A (UInt8.ofNat (48 + i)) = some ⟨1, i⟩
  bang : A 33 = none
  brak : A 40 = none
/-- How a text is read at each level. -/
structure RT (A : UInt8 → Option Mark) (T : Tm) (s : List UInt8) (b : Bool) : Prop where
  l0 : ∀ f r, (s ++ r).length ≤ f → (b = false → T.kind ≤ 2) → rPart A f (s ++ r) = ⟨T.marks, r, true⟩
  l1 : ∀ f r, (s ++ r).length ≤ f → (b = false → T.kind ≤ 3) → ∃ g, r.length ≤ g ∧ rAnd A f (s ++ r) = rLoop (rPart A f) 38 3 g T.marks r
  l2 : ∀ f r, (s ++ r).length ≤ f → (b = false → T.kind ≤ 4) → noHead 38 r → ∃ g, r.length ≤ g ∧ rOr A f (s ++ r) = rLoop (rAnd A f) 124 4 g T.marks r
  l3 : ∀ f r, (s ++ r).length ≤ f → noHead 38 r → noHead 124 r → ∃ g, r.length ≤ g ∧ rSame A f (s ++ r) = rLoop (rOr A f) 61 5 g T.marks r
theorem lift1 {A : UInt8 → Option Mark} {f : Nat} {t : List Mark} {s r : List UInt8} (hl : (s ++ r).length ≤ f) (h : rPart A f (s ++ r) = ⟨t, r, true⟩) : ∃ g, r.length ≤ g ∧ rAnd A f (s ++ r) = rLoop (rPart A f) 38 3 g t r :=
  ⟨f, by simp at hl; omega, rRow_up h⟩
theorem lift2 {A : UInt8 → Option Mark} {f : Nat} {t : List Mark} {s r : List UInt8} (hl : (s ++ r).length ≤ f) (hn : noHead 38 r) (h : ∃ g, r.length ≤ g ∧ rAnd A f (s ++ r) = rLoop (rPart A f) 38 3 g t r) : ∃ g, r.length ≤ g ∧ rOr A f (s ++ r) = rLoop (rAnd A f) 124 4 g t r := by
  obtain ⟨g, _, h⟩ := h
  rw [rLoop_stop g t hn] at h
  exact ⟨f, by simp at hl; omega, rRow_up h⟩
theorem lift3 {A : UInt8 → Option Mark} {f : Nat} {t : List Mark} {s r : List UInt8} (hl : (s ++ r).length ≤ f) (hn : noHead 124 r) (h : ∃ g, r.length ≤ g ∧ rOr A f (s ++ r) = rLoop (rAnd A f) 124 4 g t r) : ∃ g, r.length ≤ g ∧ rSame A f (s ++ r) = rLoop (rOr A f) 61 5 g t r := by
  obtain ⟨g, _, h⟩ := h
  rw [rLoop_stop g t hn] at h
  exact ⟨f, by simp at hl; omega, rRow_up h⟩
theorem RT.of0 {A : UInt8 → Option Mark} {T : Tm} {s : List UInt8} {b : Bool} (h : ∀ f r, (s ++ r).length ≤ f → rPart A f (s ++ r) = ⟨T.marks, r, true⟩) : RT A T s b :=
  ⟨fun f r hl _ => h f r hl, fun f r hl _ => lift1 hl (h f r hl), fun f r hl _ hn => lift2 hl hn (lift1 hl (h f r hl)), fun f r hl hn hn2 => lift3 hl hn2 (lift2 hl hn (lift1 hl (h f r hl)))⟩
theorem RT.par {A : UInt8 → Option Mark} (hA : AOk A) {T : Tm} (h : RT A T T.text false) (b : Bool) : RT A T (par b T.text) b := by
  cases b with
  | false => exact h
  | true =>
    refine RT.of0 fun f r hl => ?_
    have e : TL.par true T.text ++ r = 40 :: (T.text ++ 41 :: r) := by simp [TL.par]
    rw [e] at hl ⊢
    cases f with
    | zero => simp at hl
    | succ f =>
      obtain ⟨g, _, h3⟩ := h.l3 f (41 :: r) (by simp at hl ⊢; omega) (by simp [noHead]) (by simp [noHead])
      rw [rPart_open A f _ hA.brak, h3, rLoop_stop g _ (by simp [noHead])]
      simp [shut]
theorem RT.tm {A : UInt8 → Option Mark} (hA : AOk A) : ∀ T : Tm, T.ok → RT A T T.text false
  | .tells i, h => RT.of0 fun f r hl => by
    cases f with
    | zero => simp [Tm.text] at hl
    | succ f => exact rPart_one A f _ r _ (hA.letter i h)
  | .count i, h => RT.of0 fun f r hl => by
    cases f with
    | zero => simp [Tm.text] at hl
    | succ f => exact rPart_one A f _ r _ (hA.digit i h)
  | .not a, h => RT.of0 fun f r hl => by
    have e : (Tm.not a).text ++ r = 33 :: (TL.par (decide (3 ≤ a.kind)) a.text ++ r) := rfl
    rw [e] at hl ⊢
    cases f with
    | zero => simp at hl
    | succ f =>
      have ih := ((RT.tm hA a h).par hA (decide (3 ≤ a.kind))).l0 f r (by simp at hl ⊢; omega) (by simp; omega)
      rw [rPart_not A f _ hA.bang, ih]; rfl
  | .bin k a b, h => by
    have ia := (RT.tm hA a h.2.1).par hA (decide (3 + k < a.kind))
    have ib := (RT.tm hA b h.2.2).par hA (decide (3 + k ≤ b.kind))
    have e : ∀ r, (Tm.bin k a b).text ++ r = TL.par (decide (3 + k < a.kind)) a.text ++ sign k :: (TL.par (decide (3 + k ≤ b.kind)) b.text ++ r) := fun r => by simp [Tm.text]
    have em : (Tm.bin k a b).marks = a.marks ++ b.marks ++ [⟨3 + k, 0⟩] := rfl
    have ek : (Tm.bin k a b).kind = 3 + k := rfl
    have hk := h.1
    generalize TL.par (decide (3 + k < a.kind)) a.text = sa at *
    generalize TL.par (decide (3 + k ≤ b.kind)) b.text = sb at *
    generalize (Tm.bin k a b).text = st at *
    have g1 : k = 0 → ∀ f r, (st ++ r).length ≤ f → ∃ g, r.length ≤ g ∧ rAnd A f (st ++ r) = rLoop (rPart A f) 38 3 g (Tm.bin k a b).marks r := by
      rintro rfl f r hl
      rw [e] at hl ⊢
      have la : sign 0 = 38 := rfl
      rw [la] at hl ⊢
      obtain ⟨g, hg, h1⟩ := ia.l1 f _ hl (by simp <;> omega)
      have h2 := ib.l0 f r (by simp at hl ⊢; omega) (by simp; omega)
      obtain ⟨g', hg', h3⟩ := rLoop_step (k := 3) (t := a.marks) hg (by simp) h2
      exact ⟨g', hg', by rw [h1, h3, em]; rfl⟩
    have g2 : k = 1 → ∀ f r, (st ++ r).length ≤ f → noHead 38 r → ∃ g, r.length ≤ g ∧ rOr A f (st ++ r) = rLoop (rAnd A f) 124 4 g (Tm.bin k a b).marks r := by
      rintro rfl f r hl hn
      rw [e] at hl ⊢
      have la : sign 1 = 124 := rfl
      rw [la] at hl ⊢
      obtain ⟨g, hg, h1⟩ := ia.l2 f _ hl (by simp <;> omega) (by simp [noHead])
      obtain ⟨g0, _, h2⟩ := ib.l1 f r (by simp at hl ⊢; omega) (by simp; omega)
      rw [rLoop_stop g0 _ hn] at h2
      obtain ⟨g', hg', h3⟩ := rLoop_step (k := 4) (t := a.marks) hg (by simp) h2
      exact ⟨g', hg', by rw [h1, h3, em]; rfl⟩
    have g3 : k = 2 → ∀ f r, (st ++ r).length ≤ f → noHead 38 r → noHead 124 r → ∃ g, r.length ≤ g ∧ rSame A f (st ++ r) = rLoop (rOr A f) 61 5 g (Tm.bin k a b).marks r := by
      rintro rfl f r hl hn hn2
      rw [e] at hl ⊢
      have la : sign 2 = 61 := rfl
      rw [la] at hl ⊢
      obtain ⟨g, hg, h1⟩ := ia.l3 f _ hl (by simp [noHead]) (by simp [noHead])
      obtain ⟨g0, _, h2⟩ := ib.l2 f r (by simp at hl ⊢; omega) (by simp; omega) hn
      rw [rLoop_stop g0 _ hn2] at h2
      obtain ⟨g', hg', h3⟩ := rLoop_step (k := 5) (t := a.marks) hg (by simp) h2
      exact ⟨g', hg', by rw [h1, h3, em]; rfl⟩
    refine ⟨fun f r hl hq => ?_, fun f r hl hq => ?_, fun f r hl hq hn => ?_, fun f r hl hn hn2 => ?_⟩
    · have := hq rfl; omega
    · have := hq rfl; exact g1 (by omega) f r hl
    · have := hq rfl
      rcases (by omega : k = 0 ∨ k = 1) with hk | hk
      · exact lift2 hl hn (g1 hk f r hl)
      · exact g2 hk f r hl hn
    · rcases (by omega : k = 0 ∨ k = 1 ∨ k = 2) with hk | hk | hk
      · exact lift3 hl hn2 (lift2 hl hn (g1 hk f r hl))
      · exact lift3 hl hn2 (g2 hk f r hl hn)
      · exact g3 hk f r hl hn hn2
theorem read_text {A : UInt8 → Option Mark} (hA : AOk A) (T : Tm) (h : T.ok) (f : Nat) (hf : T.text.length ≤ f) : rSame A f T.text = ⟨T.marks, [], true⟩ := by
  obtain ⟨g, _, e⟩ := (RT.tm hA T h).l3 f [] (by simpa using hf) (by simp [noHead]) (by simp [noHead])
  rw [List.append_nil] at e
  rw [e, rLoop_stop g _ (by simp [noHead])]
theorem rRow_nil {p : List UInt8 → R} {sg : UInt8} {k : Int} {g : Nat} (h : (p []).ok = false) : (rRow p sg k g []).ok = false := by
  unfold rRow; rw [if_neg (by simp [h])]
theorem rPart_nil (A : UInt8 → Option Mark) (f : Nat) : (rPart A f []).ok = false := by cases f <;> rfl
theorem rSame_nil (A : UInt8 → Option Mark) (f : Nat) : (rSame A f []).ok = false := rRow_nil (rRow_nil (rRow_nil (rPart_nil A f)))
/-- The atoms of the program, and of the reference. -/
def atomI (c : UInt8) : Option Mark := if 97 ≤ c.toNat ∧ c.toNat ≤ 122 then some ⟨0, (c.toNat : Int) - 97⟩ else if 48 ≤ c.toNat ∧ c.toNat ≤ 57 then some ⟨1, (c.toNat : Int) - 48⟩ else none
def atomS (c : UInt8) : Option Mark := if 97 ≤ c.toNat ∧ c.toNat ≤ 100 then some ⟨0, (c.toNat : Int) - 97⟩ else if 48 ≤ c.toNat ∧ c.toNat ≤ 53 then some ⟨1, (c.toNat : Int) - 48⟩ else none
theorem atomI_ok : AOk atomI where
  letter i hi := by rcases (by omega : i = 0 ∨ i = 1 ∨ i = 2 ∨ i = 3) with rfl | rfl | rfl | rfl <;> rfl
  digit i hi := by rcases (by omega : i = 0 ∨ i = 1 ∨ i = 2 ∨ i = 3 ∨ i = 4 ∨ i = 5) with rfl | rfl | rfl | rfl | rfl | rfl <;> rfl
  bang := rfl
  brak := rfl
theorem atomS_ok : AOk atomS where
  letter i hi := by rcases (by omega : i = 0 ∨ i = 1 ∨ i = 2 ∨ i = 3) with rfl | rfl | rfl | rfl <;> rfl
  digit i hi := by rcases (by omega : i = 0 ∨ i = 1 ∨ i = 2 ∨ i = 3 ∨ i = 4 ∨ i = 5) with rfl | rfl | rfl | rfl | rfl | rfl <;> rfl
  bang := rfl
  brak := rfl
theorem atomI_good (c : UInt8) (m : Mark) (h : atomI c = some m) : 0 ≤ m.kind ∧ m.kind ≤ 5 ∧ 0 ≤ m.num ∧ m.num ≤ 1000 := by
  unfold atomI at h
  split at h
  · cases h; simp only; omega
  split at h
  · cases h; simp only; omega
  · cases h
theorem atomS_good (c : UInt8) (m : Mark) (h : atomS c = some m) : 0 ≤ m.kind ∧ m.kind ≤ 5 ∧ 0 ≤ m.num ∧ m.num ≤ 1000 := by
  unfold atomS at h
  split at h
  · cases h; simp only; omega
  split at h
  · cases h; simp only; omega
  · cases h
/-- The text of a term. -/
noncomputable def termText (people : Int) (t : List Mark) : List UInt8 := by
  classical exact if h : termOk people t = true then (Classical.choose (termOk_tree h)).text else []
theorem termText_no {people : Int} {t : List Mark} (h : termOk people t = false) : termText people t = [] := by
  unfold termText; rw [dif_neg (by simp [h])]
theorem termText_tree {people : Int} {t : List Mark} (h : termOk people t = true) : ∃ T : Tm, T.ok ∧ T.marks = t ∧ T.text = termText people t := by
  unfold termText; rw [dif_pos h]
  exact ⟨_, (Classical.choose_spec (termOk_tree h)).1, (Classical.choose_spec (termOk_tree h)).2, rfl⟩
theorem termOk_pos {people : Int} {t : List Mark} (h : termOk people t = true) : 1 ≤ t.length := by
  obtain ⟨T, _, rfl, _⟩ := termText_tree h; exact T.marks_pos
theorem tm_text_pos : ∀ T : Tm, T.text ≠ []
  | .tells i => by simp [Tm.text]
  | .count i => by simp [Tm.text]
  | .not a => by simp [Tm.text]
  | .bin k a b => by simp [Tm.text]
theorem termText_pos {people : Int} {t : List Mark} (h : termOk people t = true) : termText people t ≠ [] := by
  obtain ⟨T, _, _, h3⟩ := termText_tree h; rw [← h3]; exact tm_text_pos T
/-- What ReadTerm finds. -/
noncomputable def readT (people : Int) (s : List UInt8) : Option (List Mark) := by
  classical exact if h : s.length ≤ 60 ∧ ∃ t, termOk people t = true ∧ termText people t = s then some (Classical.choose h.2) else none
theorem text_inj {people : Int} {t u : List Mark} (ht : termOk people t = true) (hu : termOk people u = true) (h : termText people t = termText people u) : t = u := by
  obtain ⟨T, a1, a2, a3⟩ := termText_tree ht
  obtain ⟨U, b1, b2, b3⟩ := termText_tree hu
  have e1 := read_text atomI_ok T a1 _ (Nat.le_refl _)
  have e2 := read_text atomI_ok U b1 _ (Nat.le_refl _)
  have : T.text = U.text := by rw [a3, b3, h]
  rw [this, e2] at e1
  have := congrArg R.ms e1
  simp only at this
  rw [← a2, ← b2, this]
theorem readT_some {people : Int} {s : List UInt8} {t : List Mark} (hl : s.length ≤ 60) (h : termOk people t = true) (hs : termText people t = s) : readT people s = some t := by
  have hx : s.length ≤ 60 ∧ ∃ t, termOk people t = true ∧ termText people t = s := ⟨hl, t, h, hs⟩
  unfold readT; rw [dif_pos hx]
  have := Classical.choose_spec hx.2
  exact congrArg some (text_inj this.1 h (by rw [this.2, hs]))
theorem readT_is {people : Int} {s : List UInt8} {t : List Mark} (h : readT people s = some t) : s.length ≤ 60 ∧ termOk people t = true ∧ termText people t = s := by
  unfold readT at h
  split at h
  · rename_i hx; cases h; exact ⟨hx.1, Classical.choose_spec hx.2⟩
  · cases h
theorem readT_none {people : Int} {s : List UInt8} (h : ∀ t, s.length ≤ 60 → termOk people t = true → termText people t ≠ s) : readT people s = none := by
  unfold readT; rw [dif_neg]; rintro ⟨hl, t, h1, h2⟩; exact h t hl h1 h2
/-- What the code does: read, then compare. -/
theorem readT_code {people : Int} {s : List UInt8} {A : UInt8 → Option Mark} (hA : AOk A) (hl : s.length ≤ 60) :
    readT people s = if (rSame A s.length s).ok = true ∧ (rSame A s.length s).rest = [] ∧ termOk people (rSame A s.length s).ms = true ∧ termText people (rSame A s.length s).ms = s then some (rSame A s.length s).ms else none := by
  split
  · rename_i h; exact readT_some hl h.2.2.1 h.2.2.2
  · rename_i h
    refine readT_none fun t _ h1 h2 => h ?_
    obtain ⟨T, a1, a2, a3⟩ := termText_tree h1
    have e := read_text hA T a1 s.length (by rw [a3, h2]; exact Nat.le_refl _)
    rw [a3, h2] at e
    rw [e]
    exact ⟨rfl, rfl, by rw [a2]; exact h1, by rw [a2]; exact h2⟩
end TL
