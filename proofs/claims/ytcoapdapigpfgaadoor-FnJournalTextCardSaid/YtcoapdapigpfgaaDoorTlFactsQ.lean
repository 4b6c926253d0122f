/- Facts about the types of this seat. -/
import Derived.Test.YtcoapdapigpfgaaDoorTlCut
import Derived.Test.YtcoapdapigpfgaaDoorChecked
namespace TL
open Go Go.Proofs
@[simp] theorem sz_1 : sz Tryd.prog 1 = some 1 := by kernel_rfl
@[simp] theorem bytes_1 : bytes Tryd.prog 1 = some 8 := by kernel_rfl
@[simp] theorem szz_1 : szz Tryd.prog 1 = some 1 := by kernel_rfl
@[simp] theorem isAg_1 : isAg Tryd.prog 1 = some false := by kernel_rfl
@[simp] theorem zeroC_1 : zeroC Tryd.prog 1 = some [.v .any] := by kernel_rfl
@[simp] theorem sz_2 : sz Tryd.prog 2 = some 1 := by kernel_rfl
@[simp] theorem bytes_2 : bytes Tryd.prog 2 = some 8 := by kernel_rfl
@[simp] theorem szz_2 : szz Tryd.prog 2 = some 1 := by kernel_rfl
@[simp] theorem isAg_2 : isAg Tryd.prog 2 = some false := by kernel_rfl
@[simp] theorem intK_2 : intK Tryd.prog 2 = some .i64 := by kernel_rfl
@[simp] theorem zeroC_2 : zeroC Tryd.prog 2 = some [.v (.int .i64 0)] := by kernel_rfl
@[simp] theorem sz_3 : sz Tryd.prog 3 = some 1 := by kernel_rfl
@[simp] theorem bytes_3 : bytes Tryd.prog 3 = some 8 := by kernel_rfl
@[simp] theorem szz_3 : szz Tryd.prog 3 = some 1 := by kernel_rfl
@[simp] theorem isAg_3 : isAg Tryd.prog 3 = some false := by kernel_rfl
@[simp] theorem intK_3 : intK Tryd.prog 3 = some .i64 := by kernel_rfl
@[simp] theorem zeroC_3 : zeroC Tryd.prog 3 = some [.v (.int .i64 0)] := by kernel_rfl
@[simp] theorem sz_4 : sz Tryd.prog 4 = some 1 := by kernel_rfl
@[simp] theorem bytes_4 : bytes Tryd.prog 4 = some 1 := by kernel_rfl
@[simp] theorem szz_4 : szz Tryd.prog 4 = some 1 := by kernel_rfl
@[simp] theorem isAg_4 : isAg Tryd.prog 4 = some false := by kernel_rfl
@[simp] theorem isBool_4 : isBool Tryd.prog 4 = some true := by kernel_rfl
@[simp] theorem zeroC_4 : zeroC Tryd.prog 4 = some [.v (.bool false)] := by kernel_rfl
@[simp] theorem sz_5 : sz Tryd.prog 5 = some 1 := by kernel_rfl
@[simp] theorem bytes_5 : bytes Tryd.prog 5 = some 1 := by kernel_rfl
@[simp] theorem szz_5 : szz Tryd.prog 5 = some 1 := by kernel_rfl
@[simp] theorem isAg_5 : isAg Tryd.prog 5 = some false := by kernel_rfl
@[simp] theorem intK_5 : intK Tryd.prog 5 = some .u8 := by kernel_rfl
@[simp] theorem zeroC_5 : zeroC Tryd.prog 5 = some [.v (.int .u8 0)] := by kernel_rfl
@[simp] theorem sz_9 : sz Tryd.prog 9 = some 1 := by kernel_rfl
@[simp] theorem bytes_9 : bytes Tryd.prog 9 = some 16 := by kernel_rfl
@[simp] theorem szz_9 : szz Tryd.prog 9 = some 1 := by kernel_rfl
@[simp] theorem isAg_9 : isAg Tryd.prog 9 = some false := by kernel_rfl
@[simp] theorem isStr_9 : isStr Tryd.prog 9 = some true := by kernel_rfl
@[simp] theorem zeroC_9 : zeroC Tryd.prog 9 = some [.v (.str [])] := by kernel_rfl
@[simp] theorem sz_12 : sz Tryd.prog 12 = some 1 := by kernel_rfl
@[simp] theorem bytes_12 : bytes Tryd.prog 12 = some 8 := by kernel_rfl
@[simp] theorem szz_12 : szz Tryd.prog 12 = some 1 := by kernel_rfl
@[simp] theorem isAg_12 : isAg Tryd.prog 12 = some false := by kernel_rfl
@[simp] theorem intK_12 : intK Tryd.prog 12 = some .u64 := by kernel_rfl
@[simp] theorem zeroC_12 : zeroC Tryd.prog 12 = some [.v (.int .u64 0)] := by kernel_rfl
@[simp] theorem sz_21 : sz Tryd.prog 21 = some 1 := by kernel_rfl
@[simp] theorem bytes_21 : bytes Tryd.prog 21 = some 4 := by kernel_rfl
@[simp] theorem szz_21 : szz Tryd.prog 21 = some 1 := by kernel_rfl
@[simp] theorem isAg_21 : isAg Tryd.prog 21 = some false := by kernel_rfl
@[simp] theorem intK_21 : intK Tryd.prog 21 = some .i32 := by kernel_rfl
@[simp] theorem zeroC_21 : zeroC Tryd.prog 21 = some [.v (.int .i32 0)] := by kernel_rfl
@[simp] theorem sz_22 : sz Tryd.prog 22 = some 3 := by kernel_rfl
@[simp] theorem bytes_22 : bytes Tryd.prog 22 = some 32 := by kernel_rfl
@[simp] theorem szz_22 : szz Tryd.prog 22 = some 3 := by kernel_rfl
@[simp] theorem isAg_22 : isAg Tryd.prog 22 = some true := by kernel_rfl
@[simp] theorem zeroC_22 : zeroC Tryd.prog 22 = some [.v (.int .i64 0), .v (.int .i64 0), .v (.str [])] := by kernel_rfl
@[simp] theorem fieldsOk_22 : fieldsOk Tryd.prog 22 = true := by kernel_rfl
@[simp] theorem eqKinds_22 : eqKinds Tryd.prog 22 = some [1, 1, 2] := by kernel_rfl
@[simp] theorem fo_22_0 : fo Tryd.prog 22 0 = some 0 := by kernel_rfl
@[simp] theorem fsz_22_0 : fsz Tryd.prog 22 0 = some 1 := by kernel_rfl
@[simp] theorem fo_22_1 : fo Tryd.prog 22 1 = some 1 := by kernel_rfl
@[simp] theorem fsz_22_1 : fsz Tryd.prog 22 1 = some 1 := by kernel_rfl
@[simp] theorem fo_22_2 : fo Tryd.prog 22 2 = some 2 := by kernel_rfl
@[simp] theorem fsz_22_2 : fsz Tryd.prog 22 2 = some 1 := by kernel_rfl
@[simp] theorem sz_23 : sz Tryd.prog 23 = some 3 := by kernel_rfl
@[simp] theorem bytes_23 : bytes Tryd.prog 23 = some 32 := by kernel_rfl
@[simp] theorem szz_23 : szz Tryd.prog 23 = some 3 := by kernel_rfl
@[simp] theorem isAg_23 : isAg Tryd.prog 23 = some true := by kernel_rfl
@[simp] theorem zeroC_23 : zeroC Tryd.prog 23 = some [.v (.int .i64 0), .v (.int .i64 0), .v (.str [])] := by kernel_rfl
@[simp] theorem fieldsOk_23 : fieldsOk Tryd.prog 23 = true := by kernel_rfl
@[simp] theorem eqKinds_23 : eqKinds Tryd.prog 23 = some [1, 1, 2] := by kernel_rfl
@[simp] theorem fo_23_0 : fo Tryd.prog 23 0 = some 0 := by kernel_rfl
@[simp] theorem fsz_23_0 : fsz Tryd.prog 23 0 = some 1 := by kernel_rfl
@[simp] theorem fo_23_1 : fo Tryd.prog 23 1 = some 1 := by kernel_rfl
@[simp] theorem fsz_23_1 : fsz Tryd.prog 23 1 = some 1 := by kernel_rfl
@[simp] theorem fo_23_2 : fo Tryd.prog 23 2 = some 2 := by kernel_rfl
@[simp] theorem fsz_23_2 : fsz Tryd.prog 23 2 = some 1 := by kernel_rfl
@[simp] theorem sz_24 : sz Tryd.prog 24 = some 1 := by kernel_rfl
@[simp] theorem bytes_24 : bytes Tryd.prog 24 = some 8 := by kernel_rfl
@[simp] theorem szz_24 : szz Tryd.prog 24 = some 1 := by kernel_rfl
@[simp] theorem isAg_24 : isAg Tryd.prog 24 = some false := by kernel_rfl
@[simp] theorem zeroC_24 : zeroC Tryd.prog 24 = some [.v .any] := by kernel_rfl
@[simp] theorem sz_25 : sz Tryd.prog 25 = some 1 := by kernel_rfl
@[simp] theorem bytes_25 : bytes Tryd.prog 25 = some 8 := by kernel_rfl
@[simp] theorem szz_25 : szz Tryd.prog 25 = some 1 := by kernel_rfl
@[simp] theorem isAg_25 : isAg Tryd.prog 25 = some false := by kernel_rfl
@[simp] theorem zeroC_25 : zeroC Tryd.prog 25 = some [.v .any] := by kernel_rfl
@[simp] theorem sz_26 : sz Tryd.prog 26 = some 3 := by kernel_rfl
@[simp] theorem bytes_26 : bytes Tryd.prog 26 = some 32 := by kernel_rfl
@[simp] theorem szz_26 : szz Tryd.prog 26 = some 3 := by kernel_rfl
@[simp] theorem isAg_26 : isAg Tryd.prog 26 = some true := by kernel_rfl
@[simp] theorem zeroC_26 : zeroC Tryd.prog 26 = some [.v (.int .i64 0), .v (.int .i64 0), .v (.str [])] := by kernel_rfl
@[simp] theorem fieldsOk_26 : fieldsOk Tryd.prog 26 = true := by kernel_rfl
@[simp] theorem eqKinds_26 : eqKinds Tryd.prog 26 = some [1, 1, 2] := by kernel_rfl
@[simp] theorem fo_26_0 : fo Tryd.prog 26 0 = some 0 := by kernel_rfl
@[simp] theorem fsz_26_0 : fsz Tryd.prog 26 0 = some 1 := by kernel_rfl
@[simp] theorem fo_26_1 : fo Tryd.prog 26 1 = some 1 := by kernel_rfl
@[simp] theorem fsz_26_1 : fsz Tryd.prog 26 1 = some 1 := by kernel_rfl
@[simp] theorem fo_26_2 : fo Tryd.prog 26 2 = some 2 := by kernel_rfl
@[simp] theorem fsz_26_2 : fsz Tryd.prog 26 2 = some 1 := by kernel_rfl
@[simp] theorem sz_27 : sz Tryd.prog 27 = some 1 := by kernel_rfl
@[simp] theorem bytes_27 : bytes Tryd.prog 27 = some 8 := by kernel_rfl
@[simp] theorem szz_27 : szz Tryd.prog 27 = some 1 := by kernel_rfl
@[simp] theorem isAg_27 : isAg Tryd.prog 27 = some false := by kernel_rfl
@[simp] theorem zeroC_27 : zeroC Tryd.prog 27 = some [.v .any] := by kernel_rfl
@[simp] theorem sz_28 : sz Tryd.prog 28 = some 1 := by kernel_rfl
@[simp] theorem bytes_28 : bytes Tryd.prog 28 = some 8 := by kernel_rfl
@[simp] theorem szz_28 : szz Tryd.prog 28 = some 1 := by kernel_rfl
@[simp] theorem isAg_28 : isAg Tryd.prog 28 = some false := by kernel_rfl
@[simp] theorem zeroC_28 : zeroC Tryd.prog 28 = some [.v .any] := by kernel_rfl
@[simp] theorem sz_29 : sz Tryd.prog 29 = some 1 := by kernel_rfl
@[simp] theorem bytes_29 : bytes Tryd.prog 29 = some 24 := by kernel_rfl
@[simp] theorem szz_29 : szz Tryd.prog 29 = some 1 := by kernel_rfl
@[simp] theorem isAg_29 : isAg Tryd.prog 29 = some false := by kernel_rfl
@[simp] theorem elT_29 : elT Tryd.prog 29 = some 114 := by kernel_rfl
@[simp] theorem isStr_29 : isStr Tryd.prog 29 = some false := by kernel_rfl
@[simp] theorem zeroC_29 : zeroC Tryd.prog 29 = some [.nil] := by kernel_rfl
@[simp] theorem sz_30 : sz Tryd.prog 30 = some 2 := by kernel_rfl
@[simp] theorem bytes_30 : bytes Tryd.prog 30 = some 32 := by kernel_rfl
@[simp] theorem szz_30 : szz Tryd.prog 30 = some 2 := by kernel_rfl
@[simp] theorem isAg_30 : isAg Tryd.prog 30 = some true := by kernel_rfl
@[simp] theorem zeroC_30 : zeroC Tryd.prog 30 = some [.v (.int .i64 0), .nil] := by kernel_rfl
@[simp] theorem fieldsOk_30 : fieldsOk Tryd.prog 30 = true := by kernel_rfl
@[simp] theorem fo_30_0 : fo Tryd.prog 30 0 = some 0 := by kernel_rfl
@[simp] theorem fsz_30_0 : fsz Tryd.prog 30 0 = some 1 := by kernel_rfl
@[simp] theorem fo_30_1 : fo Tryd.prog 30 1 = some 1 := by kernel_rfl
@[simp] theorem fsz_30_1 : fsz Tryd.prog 30 1 = some 1 := by kernel_rfl
@[simp] theorem sz_31 : sz Tryd.prog 31 = some 2 := by kernel_rfl
@[simp] theorem bytes_31 : bytes Tryd.prog 31 = some 32 := by kernel_rfl
@[simp] theorem szz_31 : szz Tryd.prog 31 = some 2 := by kernel_rfl
@[simp] theorem isAg_31 : isAg Tryd.prog 31 = some true := by kernel_rfl
@[simp] theorem zeroC_31 : zeroC Tryd.prog 31 = some [.v (.int .i64 0), .nil] := by kernel_rfl
@[simp] theorem fieldsOk_31 : fieldsOk Tryd.prog 31 = true := by kernel_rfl
@[simp] theorem fo_31_0 : fo Tryd.prog 31 0 = some 0 := by kernel_rfl
@[simp] theorem fsz_31_0 : fsz Tryd.prog 31 0 = some 1 := by kernel_rfl
@[simp] theorem fo_31_1 : fo Tryd.prog 31 1 = some 1 := by kernel_rfl
@[simp] theorem fsz_31_1 : fsz Tryd.prog 31 1 = some 1 := by kernel_rfl
@[simp] theorem sz_32 : sz Tryd.prog 32 = some 1 := by kernel_rfl
@[simp] theorem bytes_32 : bytes Tryd.prog 32 = some 8 := by kernel_rfl
@[simp] theorem szz_32 : szz Tryd.prog 32 = some 1 := by kernel_rfl
@[simp] theorem isAg_32 : isAg Tryd.prog 32 = some false := by kernel_rfl
@[simp] theorem zeroC_32 : zeroC Tryd.prog 32 = some [.v .any] := by kernel_rfl
@[simp] theorem sz_33 : sz Tryd.prog 33 = some 1 := by kernel_rfl
@[simp] theorem bytes_33 : bytes Tryd.prog 33 = some 8 := by kernel_rfl
@[simp] theorem szz_33 : szz Tryd.prog 33 = some 1 := by kernel_rfl
@[simp] theorem isAg_33 : isAg Tryd.prog 33 = some false := by kernel_rfl
@[simp] theorem zeroC_33 : zeroC Tryd.prog 33 = some [.v .any] := by kernel_rfl
@[simp] theorem sz_34 : sz Tryd.prog 34 = some 1 := by kernel_rfl
@[simp] theorem bytes_34 : bytes Tryd.prog 34 = some 24 := by kernel_rfl
@[simp] theorem szz_34 : szz Tryd.prog 34 = some 1 := by kernel_rfl
@[simp] theorem isAg_34 : isAg Tryd.prog 34 = some false := by kernel_rfl
@[simp] theorem elT_34 : elT Tryd.prog 34 = some 80 := by kernel_rfl
@[simp] theorem isStr_34 : isStr Tryd.prog 34 = some false := by kernel_rfl
@[simp] theorem zeroC_34 : zeroC Tryd.prog 34 = some [.nil] := by kernel_rfl
@[simp] theorem sz_35 : sz Tryd.prog 35 = some 2 := by kernel_rfl
@[simp] theorem bytes_35 : bytes Tryd.prog 35 = some 32 := by kernel_rfl
@[simp] theorem szz_35 : szz Tryd.prog 35 = some 2 := by kernel_rfl
@[simp] theorem isAg_35 : isAg Tryd.prog 35 = some true := by kernel_rfl
@[simp] theorem zeroC_35 : zeroC Tryd.prog 35 = some [.v (.int .i64 0), .nil] := by kernel_rfl
@[simp] theorem fieldsOk_35 : fieldsOk Tryd.prog 35 = true := by kernel_rfl
@[simp] theorem fo_35_0 : fo Tryd.prog 35 0 = some 0 := by kernel_rfl
@[simp] theorem fsz_35_0 : fsz Tryd.prog 35 0 = some 1 := by kernel_rfl
@[simp] theorem fo_35_1 : fo Tryd.prog 35 1 = some 1 := by kernel_rfl
@[simp] theorem fsz_35_1 : fsz Tryd.prog 35 1 = some 1 := by kernel_rfl
@[simp] theorem sz_36 : sz Tryd.prog 36 = some 2 := by kernel_rfl
@[simp] theorem bytes_36 : bytes Tryd.prog 36 = some 32 := by kernel_rfl
@[simp] theorem szz_36 : szz Tryd.prog 36 = some 2 := by kernel_rfl
@[simp] theorem isAg_36 : isAg Tryd.prog 36 = some true := by kernel_rfl
@[simp] theorem zeroC_36 : zeroC Tryd.prog 36 = some [.v (.int .i64 0), .nil] := by kernel_rfl
@[simp] theorem fieldsOk_36 : fieldsOk Tryd.prog 36 = true := by kernel_rfl
@[simp] theorem fo_36_0 : fo Tryd.prog 36 0 = some 0 := by kernel_rfl
@[simp] theorem fsz_36_0 : fsz Tryd.prog 36 0 = some 1 := by kernel_rfl
@[simp] theorem fo_36_1 : fo Tryd.prog 36 1 = some 1 := by kernel_rfl
@[simp] theorem fsz_36_1 : fsz Tryd.prog 36 1 = some 1 := by kernel_rfl
@[simp] theorem sz_37 : sz Tryd.prog 37 = some 1 := by kernel_rfl
@[simp] theorem bytes_37 : bytes Tryd.prog 37 = some 8 := by kernel_rfl
@[simp] theorem szz_37 : szz Tryd.prog 37 = some 1 := by kernel_rfl
@[simp] theorem isAg_37 : isAg Tryd.prog 37 = some false := by kernel_rfl
@[simp] theorem zeroC_37 : zeroC Tryd.prog 37 = some [.v .any] := by kernel_rfl
@[simp] theorem sz_38 : sz Tryd.prog 38 = some 1 := by kernel_rfl
@[simp] theorem bytes_38 : bytes Tryd.prog 38 = some 8 := by kernel_rfl
@[simp] theorem szz_38 : szz Tryd.prog 38 = some 1 := by kernel_rfl
@[simp] theorem isAg_38 : isAg Tryd.prog 38 = some false := by kernel_rfl
@[simp] theorem zeroC_38 : zeroC Tryd.prog 38 = some [.v .any] := by kernel_rfl
@[simp] theorem sz_39 : sz Tryd.prog 39 = some 1 := by kernel_rfl
@[simp] theorem bytes_39 : bytes Tryd.prog 39 = some 8 := by kernel_rfl
@[simp] theorem szz_39 : szz Tryd.prog 39 = some 1 := by kernel_rfl
@[simp] theorem isAg_39 : isAg Tryd.prog 39 = some false := by kernel_rfl
@[simp] theorem zeroC_39 : zeroC Tryd.prog 39 = some [.v .any] := by kernel_rfl
@[simp] theorem sz_40 : sz Tryd.prog 40 = some 1 := by kernel_rfl
@[simp] theorem bytes_40 : bytes Tryd.prog 40 = some 24 := by kernel_rfl
@[simp] theorem szz_40 : szz Tryd.prog 40 = some 1 := by kernel_rfl
@[simp] theorem isAg_40 : isAg Tryd.prog 40 = some false := by kernel_rfl
@[simp] theorem elT_40 : elT Tryd.prog 40 = some 23 := by kernel_rfl
@[simp] theorem isStr_40 : isStr Tryd.prog 40 = some false := by kernel_rfl
@[simp] theorem zeroC_40 : zeroC Tryd.prog 40 = some [.nil] := by kernel_rfl
@[simp] theorem sz_41 : sz Tryd.prog 41 = some 1 := by kernel_rfl
@[simp] theorem bytes_41 : bytes Tryd.prog 41 = some 8 := by kernel_rfl
@[simp] theorem szz_41 : szz Tryd.prog 41 = some 1 := by kernel_rfl
@[simp] theorem isAg_41 : isAg Tryd.prog 41 = some false := by kernel_rfl
@[simp] theorem zeroC_41 : zeroC Tryd.prog 41 = some [.v .any] := by kernel_rfl
@[simp] theorem sz_42 : sz Tryd.prog 42 = some 1 := by kernel_rfl
@[simp] theorem bytes_42 : bytes Tryd.prog 42 = some 8 := by kernel_rfl
@[simp] theorem szz_42 : szz Tryd.prog 42 = some 1 := by kernel_rfl
@[simp] theorem isAg_42 : isAg Tryd.prog 42 = some false := by kernel_rfl
@[simp] theorem zeroC_42 : zeroC Tryd.prog 42 = some [.v .any] := by kernel_rfl
@[simp] theorem sz_43 : sz Tryd.prog 43 = some 1 := by kernel_rfl
@[simp] theorem bytes_43 : bytes Tryd.prog 43 = some 24 := by kernel_rfl
@[simp] theorem szz_43 : szz Tryd.prog 43 = some 1 := by kernel_rfl
@[simp] theorem isAg_43 : isAg Tryd.prog 43 = some false := by kernel_rfl
@[simp] theorem elT_43 : elT Tryd.prog 43 = some 26 := by kernel_rfl
@[simp] theorem isStr_43 : isStr Tryd.prog 43 = some false := by kernel_rfl
@[simp] theorem zeroC_43 : zeroC Tryd.prog 43 = some [.nil] := by kernel_rfl
@[simp] theorem sz_44 : sz Tryd.prog 44 = some 1 := by kernel_rfl
@[simp] theorem bytes_44 : bytes Tryd.prog 44 = some 8 := by kernel_rfl
@[simp] theorem szz_44 : szz Tryd.prog 44 = some 1 := by kernel_rfl
@[simp] theorem isAg_44 : isAg Tryd.prog 44 = some false := by kernel_rfl
@[simp] theorem zeroC_44 : zeroC Tryd.prog 44 = some [.v .any] := by kernel_rfl
@[simp] theorem sz_45 : sz Tryd.prog 45 = some 1 := by kernel_rfl
@[simp] theorem bytes_45 : bytes Tryd.prog 45 = some 8 := by kernel_rfl
@[simp] theorem szz_45 : szz Tryd.prog 45 = some 1 := by kernel_rfl
@[simp] theorem isAg_45 : isAg Tryd.prog 45 = some false := by kernel_rfl
@[simp] theorem zeroC_45 : zeroC Tryd.prog 45 = some [.v .any] := by kernel_rfl
@[simp] theorem sz_46 : sz Tryd.prog 46 = some 1 := by kernel_rfl
@[simp] theorem bytes_46 : bytes Tryd.prog 46 = some 8 := by kernel_rfl
@[simp] theorem szz_46 : szz Tryd.prog 46 = some 1 := by kernel_rfl
@[simp] theorem isAg_46 : isAg Tryd.prog 46 = some false := by kernel_rfl
@[simp] theorem zeroC_46 : zeroC Tryd.prog 46 = some [.v .any] := by kernel_rfl
@[simp] theorem sz_47 : sz Tryd.prog 47 = some 3 := by kernel_rfl
@[simp] theorem bytes_47 : bytes Tryd.prog 47 = some 40 := by kernel_rfl
@[simp] theorem szz_47 : szz Tryd.prog 47 = some 3 := by kernel_rfl
@[simp] theorem isAg_47 : isAg Tryd.prog 47 = some true := by kernel_rfl
@[simp] theorem zeroC_47 : zeroC Tryd.prog 47 = some [.v (.str []), .v (.str []), .v (.int .i64 0)] := by kernel_rfl
@[simp] theorem fieldsOk_47 : fieldsOk Tryd.prog 47 = true := by kernel_rfl
@[simp] theorem eqKinds_47 : eqKinds Tryd.prog 47 = some [2, 2, 1] := by kernel_rfl
@[simp] theorem fo_47_0 : fo Tryd.prog 47 0 = some 0 := by kernel_rfl
@[simp] theorem fsz_47_0 : fsz Tryd.prog 47 0 = some 1 := by kernel_rfl
@[simp] theorem fo_47_1 : fo Tryd.prog 47 1 = some 1 := by kernel_rfl
@[simp] theorem fsz_47_1 : fsz Tryd.prog 47 1 = some 1 := by kernel_rfl
@[simp] theorem fo_47_2 : fo Tryd.prog 47 2 = some 2 := by kernel_rfl
@[simp] theorem fsz_47_2 : fsz Tryd.prog 47 2 = some 1 := by kernel_rfl
@[simp] theorem sz_48 : sz Tryd.prog 48 = some 3 := by kernel_rfl
@[simp] theorem bytes_48 : bytes Tryd.prog 48 = some 40 := by kernel_rfl
@[simp] theorem szz_48 : szz Tryd.prog 48 = some 3 := by kernel_rfl
@[simp] theorem isAg_48 : isAg Tryd.prog 48 = some true := by kernel_rfl
@[simp] theorem zeroC_48 : zeroC Tryd.prog 48 = some [.v (.str []), .v (.str []), .v (.int .i64 0)] := by kernel_rfl
@[simp] theorem fieldsOk_48 : fieldsOk Tryd.prog 48 = true := by kernel_rfl
@[simp] theorem eqKinds_48 : eqKinds Tryd.prog 48 = some [2, 2, 1] := by kernel_rfl
@[simp] theorem fo_48_0 : fo Tryd.prog 48 0 = some 0 := by kernel_rfl
@[simp] theorem fsz_48_0 : fsz Tryd.prog 48 0 = some 1 := by kernel_rfl
@[simp] theorem fo_48_1 : fo Tryd.prog 48 1 = some 1 := by kernel_rfl
@[simp] theorem fsz_48_1 : fsz Tryd.prog 48 1 = some 1 := by kernel_rfl
@[simp] theorem fo_48_2 : fo Tryd.prog 48 2 = some 2 := by kernel_rfl
@[simp] theorem fsz_48_2 : fsz Tryd.prog 48 2 = some 1 := by kernel_rfl
@[simp] theorem sz_50 : sz Tryd.prog 50 = some 1 := by kernel_rfl
@[simp] theorem bytes_50 : bytes Tryd.prog 50 = some 8 := by kernel_rfl
@[simp] theorem szz_50 : szz Tryd.prog 50 = some 1 := by kernel_rfl
@[simp] theorem isAg_50 : isAg Tryd.prog 50 = some false := by kernel_rfl
@[simp] theorem zeroC_50 : zeroC Tryd.prog 50 = some [.v .any] := by kernel_rfl
@[simp] theorem sz_51 : sz Tryd.prog 51 = some 1 := by kernel_rfl
@[simp] theorem bytes_51 : bytes Tryd.prog 51 = some 8 := by kernel_rfl
@[simp] theorem szz_51 : szz Tryd.prog 51 = some 1 := by kernel_rfl
@[simp] theorem isAg_51 : isAg Tryd.prog 51 = some false := by kernel_rfl
@[simp] theorem zeroC_51 : zeroC Tryd.prog 51 = some [.v .any] := by kernel_rfl
@[simp] theorem sz_52 : sz Tryd.prog 52 = some 1 := by kernel_rfl
@[simp] theorem bytes_52 : bytes Tryd.prog 52 = some 24 := by kernel_rfl
@[simp] theorem szz_52 : szz Tryd.prog 52 = some 1 := by kernel_rfl
@[simp] theorem isAg_52 : isAg Tryd.prog 52 = some false := by kernel_rfl
@[simp] theorem elT_52 : elT Tryd.prog 52 = some 5 := by kernel_rfl
@[simp] theorem isStr_52 : isStr Tryd.prog 52 = some false := by kernel_rfl
@[simp] theorem zeroC_52 : zeroC Tryd.prog 52 = some [.nil] := by kernel_rfl
@[simp] theorem sz_53 : sz Tryd.prog 53 = some 1 := by kernel_rfl
@[simp] theorem bytes_53 : bytes Tryd.prog 53 = some 8 := by kernel_rfl
@[simp] theorem szz_53 : szz Tryd.prog 53 = some 1 := by kernel_rfl
@[simp] theorem isAg_53 : isAg Tryd.prog 53 = some false := by kernel_rfl
@[simp] theorem zeroC_53 : zeroC Tryd.prog 53 = some [.v .any] := by kernel_rfl
@[simp] theorem sz_54 : sz Tryd.prog 54 = some 1 := by kernel_rfl
@[simp] theorem bytes_54 : bytes Tryd.prog 54 = some 8 := by kernel_rfl
@[simp] theorem szz_54 : szz Tryd.prog 54 = some 1 := by kernel_rfl
@[simp] theorem isAg_54 : isAg Tryd.prog 54 = some false := by kernel_rfl
@[simp] theorem zeroC_54 : zeroC Tryd.prog 54 = some [.v .any] := by kernel_rfl
@[simp] theorem sz_55 : sz Tryd.prog 55 = some 1 := by kernel_rfl
@[simp] theorem bytes_55 : bytes Tryd.prog 55 = some 8 := by kernel_rfl
@[simp] theorem szz_55 : szz Tryd.prog 55 = some 1 := by kernel_rfl
@[simp] theorem isAg_55 : isAg Tryd.prog 55 = some false := by kernel_rfl
@[simp] theorem zeroC_55 : zeroC Tryd.prog 55 = some [.v .any] := by kernel_rfl
@[simp] theorem sz_57 : sz Tryd.prog 57 = some 1 := by kernel_rfl
@[simp] theorem bytes_57 : bytes Tryd.prog 57 = some 8 := by kernel_rfl
@[simp] theorem szz_57 : szz Tryd.prog 57 = some 1 := by kernel_rfl
@[simp] theorem isAg_57 : isAg Tryd.prog 57 = some false := by kernel_rfl
@[simp] theorem zeroC_57 : zeroC Tryd.prog 57 = some [.v .any] := by kernel_rfl
@[simp] theorem sz_58 : sz Tryd.prog 58 = some 1 := by kernel_rfl
@[simp] theorem bytes_58 : bytes Tryd.prog 58 = some 8 := by kernel_rfl
@[simp] theorem szz_58 : szz Tryd.prog 58 = some 1 := by kernel_rfl
@[simp] theorem isAg_58 : isAg Tryd.prog 58 = some false := by kernel_rfl
@[simp] theorem zeroC_58 : zeroC Tryd.prog 58 = some [.v .any] := by kernel_rfl
@[simp] theorem sz_59 : sz Tryd.prog 59 = some 3 := by kernel_rfl
@[simp] theorem bytes_59 : bytes Tryd.prog 59 = some 40 := by kernel_rfl
@[simp] theorem szz_59 : szz Tryd.prog 59 = some 3 := by kernel_rfl
@[simp] theorem isAg_59 : isAg Tryd.prog 59 = some true := by kernel_rfl
@[simp] theorem zeroC_59 : zeroC Tryd.prog 59 = some [.v (.str []), .v (.str []), .v (.int .i64 0)] := by kernel_rfl
@[simp] theorem fieldsOk_59 : fieldsOk Tryd.prog 59 = true := by kernel_rfl
@[simp] theorem eqKinds_59 : eqKinds Tryd.prog 59 = some [2, 2, 1] := by kernel_rfl
@[simp] theorem fo_59_0 : fo Tryd.prog 59 0 = some 0 := by kernel_rfl
@[simp] theorem fsz_59_0 : fsz Tryd.prog 59 0 = some 1 := by kernel_rfl
@[simp] theorem fo_59_1 : fo Tryd.prog 59 1 = some 1 := by kernel_rfl
@[simp] theorem fsz_59_1 : fsz Tryd.prog 59 1 = some 1 := by kernel_rfl
@[simp] theorem fo_59_2 : fo Tryd.prog 59 2 = some 2 := by kernel_rfl
@[simp] theorem fsz_59_2 : fsz Tryd.prog 59 2 = some 1 := by kernel_rfl
@[simp] theorem sz_60 : sz Tryd.prog 60 = some 1 := by kernel_rfl
@[simp] theorem bytes_60 : bytes Tryd.prog 60 = some 8 := by kernel_rfl
@[simp] theorem szz_60 : szz Tryd.prog 60 = some 1 := by kernel_rfl
@[simp] theorem isAg_60 : isAg Tryd.prog 60 = some false := by kernel_rfl
@[simp] theorem zeroC_60 : zeroC Tryd.prog 60 = some [.v .any] := by kernel_rfl
@[simp] theorem sz_61 : sz Tryd.prog 61 = some 1 := by kernel_rfl
@[simp] theorem bytes_61 : bytes Tryd.prog 61 = some 8 := by kernel_rfl
@[simp] theorem szz_61 : szz Tryd.prog 61 = some 1 := by kernel_rfl
@[simp] theorem isAg_61 : isAg Tryd.prog 61 = some false := by kernel_rfl
@[simp] theorem zeroC_61 : zeroC Tryd.prog 61 = some [.v .any] := by kernel_rfl
@[simp] theorem sz_62 : sz Tryd.prog 62 = some 1 := by kernel_rfl
@[simp] theorem bytes_62 : bytes Tryd.prog 62 = some 8 := by kernel_rfl
@[simp] theorem szz_62 : szz Tryd.prog 62 = some 1 := by kernel_rfl
@[simp] theorem isAg_62 : isAg Tryd.prog 62 = some false := by kernel_rfl
@[simp] theorem zeroC_62 : zeroC Tryd.prog 62 = some [.v .any] := by kernel_rfl
@[simp] theorem sz_63 : sz Tryd.prog 63 = some 1 := by kernel_rfl
@[simp] theorem bytes_63 : bytes Tryd.prog 63 = some 8 := by kernel_rfl
@[simp] theorem szz_63 : szz Tryd.prog 63 = some 1 := by kernel_rfl
@[simp] theorem isAg_63 : isAg Tryd.prog 63 = some false := by kernel_rfl
@[simp] theorem zeroC_63 : zeroC Tryd.prog 63 = some [.v .any] := by kernel_rfl
@[simp] theorem sz_64 : sz Tryd.prog 64 = some 1 := by kernel_rfl
@[simp] theorem bytes_64 : bytes Tryd.prog 64 = some 8 := by kernel_rfl
@[simp] theorem szz_64 : szz Tryd.prog 64 = some 1 := by kernel_rfl
@[simp] theorem isAg_64 : isAg Tryd.prog 64 = some false := by kernel_rfl
@[simp] theorem zeroC_64 : zeroC Tryd.prog 64 = some [.v .any] := by kernel_rfl
@[simp] theorem sz_65 : sz Tryd.prog 65 = some 1 := by kernel_rfl
@[simp] theorem bytes_65 : bytes Tryd.prog 65 = some 8 := by kernel_rfl
@[simp] theorem szz_65 : szz Tryd.prog 65 = some 1 := by kernel_rfl
@[simp] theorem isAg_65 : isAg Tryd.prog 65 = some false := by kernel_rfl
@[simp] theorem zeroC_65 : zeroC Tryd.prog 65 = some [.v .any] := by kernel_rfl
@[simp] theorem sz_66 : sz Tryd.prog 66 = some 1 := by kernel_rfl
@[simp] theorem bytes_66 : bytes Tryd.prog 66 = some 8 := by kernel_rfl
@[simp] theorem szz_66 : szz Tryd.prog 66 = some 1 := by kernel_rfl
@[simp] theorem isAg_66 : isAg Tryd.prog 66 = some false := by kernel_rfl
@[simp] theorem zeroC_66 : zeroC Tryd.prog 66 = some [.v .any] := by kernel_rfl
@[simp] theorem sz_68 : sz Tryd.prog 68 = some 1 := by kernel_rfl
@[simp] theorem bytes_68 : bytes Tryd.prog 68 = some 8 := by kernel_rfl
@[simp] theorem szz_68 : szz Tryd.prog 68 = some 1 := by kernel_rfl
@[simp] theorem isAg_68 : isAg Tryd.prog 68 = some false := by kernel_rfl
@[simp] theorem zeroC_68 : zeroC Tryd.prog 68 = some [.v .any] := by kernel_rfl
@[simp] theorem sz_69 : sz Tryd.prog 69 = some 1 := by kernel_rfl
@[simp] theorem bytes_69 : bytes Tryd.prog 69 = some 8 := by kernel_rfl
@[simp] theorem szz_69 : szz Tryd.prog 69 = some 1 := by kernel_rfl
@[simp] theorem isAg_69 : isAg Tryd.prog 69 = some false := by kernel_rfl
@[simp] theorem zeroC_69 : zeroC Tryd.prog 69 = some [.v .any] := by kernel_rfl
@[simp] theorem sz_70 : sz Tryd.prog 70 = some 1 := by kernel_rfl
@[simp] theorem bytes_70 : bytes Tryd.prog 70 = some 8 := by kernel_rfl
@[simp] theorem szz_70 : szz Tryd.prog 70 = some 1 := by kernel_rfl
@[simp] theorem isAg_70 : isAg Tryd.prog 70 = some false := by kernel_rfl
@[simp] theorem zeroC_70 : zeroC Tryd.prog 70 = some [.v .any] := by kernel_rfl
@[simp] theorem sz_71 : sz Tryd.prog 71 = some 1 := by kernel_rfl
@[simp] theorem bytes_71 : bytes Tryd.prog 71 = some 8 := by kernel_rfl
@[simp] theorem szz_71 : szz Tryd.prog 71 = some 1 := by kernel_rfl
@[simp] theorem isAg_71 : isAg Tryd.prog 71 = some false := by kernel_rfl
@[simp] theorem zeroC_71 : zeroC Tryd.prog 71 = some [.v .any] := by kernel_rfl
@[simp] theorem sz_72 : sz Tryd.prog 72 = some 1 := by kernel_rfl
@[simp] theorem bytes_72 : bytes Tryd.prog 72 = some 8 := by kernel_rfl
@[simp] theorem szz_72 : szz Tryd.prog 72 = some 1 := by kernel_rfl
@[simp] theorem isAg_72 : isAg Tryd.prog 72 = some false := by kernel_rfl
@[simp] theorem zeroC_72 : zeroC Tryd.prog 72 = some [.v .any] := by kernel_rfl
@[simp] theorem sz_73 : sz Tryd.prog 73 = some 1 := by kernel_rfl
@[simp] theorem bytes_73 : bytes Tryd.prog 73 = some 8 := by kernel_rfl
@[simp] theorem szz_73 : szz Tryd.prog 73 = some 1 := by kernel_rfl
@[simp] theorem isAg_73 : isAg Tryd.prog 73 = some false := by kernel_rfl
@[simp] theorem zeroC_73 : zeroC Tryd.prog 73 = some [.v .any] := by kernel_rfl
@[simp] theorem sz_75 : sz Tryd.prog 75 = some 1 := by kernel_rfl
@[simp] theorem bytes_75 : bytes Tryd.prog 75 = some 8 := by kernel_rfl
@[simp] theorem szz_75 : szz Tryd.prog 75 = some 1 := by kernel_rfl
@[simp] theorem isAg_75 : isAg Tryd.prog 75 = some false := by kernel_rfl
@[simp] theorem zeroC_75 : zeroC Tryd.prog 75 = some [.v .any] := by kernel_rfl
@[simp] theorem sz_76 : sz Tryd.prog 76 = some 1 := by kernel_rfl
@[simp] theorem bytes_76 : bytes Tryd.prog 76 = some 8 := by kernel_rfl
@[simp] theorem szz_76 : szz Tryd.prog 76 = some 1 := by kernel_rfl
@[simp] theorem isAg_76 : isAg Tryd.prog 76 = some false := by kernel_rfl
@[simp] theorem zeroC_76 : zeroC Tryd.prog 76 = some [.v .any] := by kernel_rfl
@[simp] theorem sz_77 : sz Tryd.prog 77 = some 1 := by kernel_rfl
@[simp] theorem bytes_77 : bytes Tryd.prog 77 = some 8 := by kernel_rfl
@[simp] theorem szz_77 : szz Tryd.prog 77 = some 1 := by kernel_rfl
@[simp] theorem isAg_77 : isAg Tryd.prog 77 = some false := by kernel_rfl
@[simp] theorem zeroC_77 : zeroC Tryd.prog 77 = some [.v .any] := by kernel_rfl
@[simp] theorem sz_78 : sz Tryd.prog 78 = some 1 := by kernel_rfl
@[simp] theorem bytes_78 : bytes Tryd.prog 78 = some 24 := by kernel_rfl
@[simp] theorem szz_78 : szz Tryd.prog 78 = some 1 := by kernel_rfl
@[simp] theorem isAg_78 : isAg Tryd.prog 78 = some false := by kernel_rfl
@[simp] theorem elT_78 : elT Tryd.prog 78 = some 126 := by kernel_rfl
@[simp] theorem isStr_78 : isStr Tryd.prog 78 = some false := by kernel_rfl
@[simp] theorem zeroC_78 : zeroC Tryd.prog 78 = some [.nil] := by kernel_rfl
@[simp] theorem sz_79 : sz Tryd.prog 79 = some 2 := by kernel_rfl
@[simp] theorem bytes_79 : bytes Tryd.prog 79 = some 32 := by kernel_rfl
@[simp] theorem szz_79 : szz Tryd.prog 79 = some 2 := by kernel_rfl
@[simp] theorem isAg_79 : isAg Tryd.prog 79 = some true := by kernel_rfl
@[simp] theorem zeroC_79 : zeroC Tryd.prog 79 = some [.v (.int .i64 0), .nil] := by kernel_rfl
@[simp] theorem fieldsOk_79 : fieldsOk Tryd.prog 79 = true := by kernel_rfl
@[simp] theorem fo_79_0 : fo Tryd.prog 79 0 = some 0 := by kernel_rfl
@[simp] theorem fsz_79_0 : fsz Tryd.prog 79 0 = some 1 := by kernel_rfl
@[simp] theorem fo_79_1 : fo Tryd.prog 79 1 = some 1 := by kernel_rfl
@[simp] theorem fsz_79_1 : fsz Tryd.prog 79 1 = some 1 := by kernel_rfl
@[simp] theorem sz_80 : sz Tryd.prog 80 = some 2 := by kernel_rfl
@[simp] theorem bytes_80 : bytes Tryd.prog 80 = some 32 := by kernel_rfl
@[simp] theorem szz_80 : szz Tryd.prog 80 = some 2 := by kernel_rfl
@[simp] theorem isAg_80 : isAg Tryd.prog 80 = some true := by kernel_rfl
@[simp] theorem zeroC_80 : zeroC Tryd.prog 80 = some [.v (.int .i64 0), .nil] := by kernel_rfl
@[simp] theorem fieldsOk_80 : fieldsOk Tryd.prog 80 = true := by kernel_rfl
@[simp] theorem fo_80_0 : fo Tryd.prog 80 0 = some 0 := by kernel_rfl
@[simp] theorem fsz_80_0 : fsz Tryd.prog 80 0 = some 1 := by kernel_rfl
@[simp] theorem fo_80_1 : fo Tryd.prog 80 1 = some 1 := by kernel_rfl
@[simp] theorem fsz_80_1 : fsz Tryd.prog 80 1 = some 1 := by kernel_rfl
@[simp] theorem sz_82 : sz Tryd.prog 82 = some 1 := by kernel_rfl
@[simp] theorem bytes_82 : bytes Tryd.prog 82 = some 8 := by kernel_rfl
@[simp] theorem szz_82 : szz Tryd.prog 82 = some 1 := by kernel_rfl
@[simp] theorem isAg_82 : isAg Tryd.prog 82 = some false := by kernel_rfl
@[simp] theorem zeroC_82 : zeroC Tryd.prog 82 = some [.v .any] := by kernel_rfl
@[simp] theorem sz_83 : sz Tryd.prog 83 = some 1 := by kernel_rfl
@[simp] theorem bytes_83 : bytes Tryd.prog 83 = some 8 := by kernel_rfl
@[simp] theorem szz_83 : szz Tryd.prog 83 = some 1 := by kernel_rfl
@[simp] theorem isAg_83 : isAg Tryd.prog 83 = some false := by kernel_rfl
@[simp] theorem zeroC_83 : zeroC Tryd.prog 83 = some [.v .any] := by kernel_rfl
@[simp] theorem sz_84 : sz Tryd.prog 84 = some 1 := by kernel_rfl
@[simp] theorem bytes_84 : bytes Tryd.prog 84 = some 8 := by kernel_rfl
@[simp] theorem szz_84 : szz Tryd.prog 84 = some 1 := by kernel_rfl
@[simp] theorem isAg_84 : isAg Tryd.prog 84 = some false := by kernel_rfl
@[simp] theorem zeroC_84 : zeroC Tryd.prog 84 = some [.v .any] := by kernel_rfl
@[simp] theorem sz_85 : sz Tryd.prog 85 = some 1 := by kernel_rfl
@[simp] theorem bytes_85 : bytes Tryd.prog 85 = some 8 := by kernel_rfl
@[simp] theorem szz_85 : szz Tryd.prog 85 = some 1 := by kernel_rfl
@[simp] theorem isAg_85 : isAg Tryd.prog 85 = some false := by kernel_rfl
@[simp] theorem zeroC_85 : zeroC Tryd.prog 85 = some [.v .any] := by kernel_rfl
@[simp] theorem sz_86 : sz Tryd.prog 86 = some 1 := by kernel_rfl
@[simp] theorem bytes_86 : bytes Tryd.prog 86 = some 24 := by kernel_rfl
@[simp] theorem szz_86 : szz Tryd.prog 86 = some 1 := by kernel_rfl
@[simp] theorem isAg_86 : isAg Tryd.prog 86 = some false := by kernel_rfl
@[simp] theorem elT_86 : elT Tryd.prog 86 = some 9 := by kernel_rfl
@[simp] theorem isStr_86 : isStr Tryd.prog 86 = some false := by kernel_rfl
@[simp] theorem zeroC_86 : zeroC Tryd.prog 86 = some [.nil] := by kernel_rfl
@[simp] theorem sz_87 : sz Tryd.prog 87 = some 1 := by kernel_rfl
@[simp] theorem bytes_87 : bytes Tryd.prog 87 = some 8 := by kernel_rfl
@[simp] theorem szz_87 : szz Tryd.prog 87 = some 1 := by kernel_rfl
@[simp] theorem isAg_87 : isAg Tryd.prog 87 = some false := by kernel_rfl
@[simp] theorem zeroC_87 : zeroC Tryd.prog 87 = some [.v .any] := by kernel_rfl
@[simp] theorem sz_88 : sz Tryd.prog 88 = some 1 := by kernel_rfl
@[simp] theorem bytes_88 : bytes Tryd.prog 88 = some 8 := by kernel_rfl
@[simp] theorem szz_88 : szz Tryd.prog 88 = some 1 := by kernel_rfl
@[simp] theorem isAg_88 : isAg Tryd.prog 88 = some false := by kernel_rfl
@[simp] theorem zeroC_88 : zeroC Tryd.prog 88 = some [.v .any] := by kernel_rfl
@[simp] theorem sz_89 : sz Tryd.prog 89 = some 1 := by kernel_rfl
@[simp] theorem bytes_89 : bytes Tryd.prog 89 = some 8 := by kernel_rfl
@[simp] theorem szz_89 : szz Tryd.prog 89 = some 1 := by kernel_rfl
@[simp] theorem isAg_89 : isAg Tryd.prog 89 = some false := by kernel_rfl
@[simp] theorem zeroC_89 : zeroC Tryd.prog 89 = some [.v .any] := by kernel_rfl
@[simp] theorem sz_90 : sz Tryd.prog 90 = some 1 := by kernel_rfl
@[simp] theorem bytes_90 : bytes Tryd.prog 90 = some 8 := by kernel_rfl
@[simp] theorem szz_90 : szz Tryd.prog 90 = some 1 := by kernel_rfl
@[simp] theorem isAg_90 : isAg Tryd.prog 90 = some false := by kernel_rfl
@[simp] theorem zeroC_90 : zeroC Tryd.prog 90 = some [.v .any] := by kernel_rfl
@[simp] theorem sz_91 : sz Tryd.prog 91 = some 1 := by kernel_rfl
@[simp] theorem bytes_91 : bytes Tryd.prog 91 = some 8 := by kernel_rfl
@[simp] theorem szz_91 : szz Tryd.prog 91 = some 1 := by kernel_rfl
@[simp] theorem isAg_91 : isAg Tryd.prog 91 = some false := by kernel_rfl
@[simp] theorem zeroC_91 : zeroC Tryd.prog 91 = some [.v .any] := by kernel_rfl
@[simp] theorem sz_92 : sz Tryd.prog 92 = some 1 := by kernel_rfl
@[simp] theorem bytes_92 : bytes Tryd.prog 92 = some 8 := by kernel_rfl
@[simp] theorem szz_92 : szz Tryd.prog 92 = some 1 := by kernel_rfl
@[simp] theorem isAg_92 : isAg Tryd.prog 92 = some false := by kernel_rfl
@[simp] theorem zeroC_92 : zeroC Tryd.prog 92 = some [.v .any] := by kernel_rfl
@[simp] theorem sz_93 : sz Tryd.prog 93 = some 1 := by kernel_rfl
@[simp] theorem bytes_93 : bytes Tryd.prog 93 = some 8 := by kernel_rfl
@[simp] theorem szz_93 : szz Tryd.prog 93 = some 1 := by kernel_rfl
@[simp] theorem isAg_93 : isAg Tryd.prog 93 = some false := by kernel_rfl
@[simp] theorem zeroC_93 : zeroC Tryd.prog 93 = some [.v .any] := by kernel_rfl
@[simp] theorem sz_94 : sz Tryd.prog 94 = some 1 := by kernel_rfl
@[simp] theorem bytes_94 : bytes Tryd.prog 94 = some 8 := by kernel_rfl
@[simp] theorem szz_94 : szz Tryd.prog 94 = some 1 := by kernel_rfl
@[simp] theorem isAg_94 : isAg Tryd.prog 94 = some false := by kernel_rfl
@[simp] theorem zeroC_94 : zeroC Tryd.prog 94 = some [.v .any] := by kernel_rfl
@[simp] theorem sz_95 : sz Tryd.prog 95 = some 1 := by kernel_rfl
@[simp] theorem bytes_95 : bytes Tryd.prog 95 = some 8 := by kernel_rfl
@[simp] theorem szz_95 : szz Tryd.prog 95 = some 1 := by kernel_rfl
@[simp] theorem isAg_95 : isAg Tryd.prog 95 = some false := by kernel_rfl
@[simp] theorem zeroC_95 : zeroC Tryd.prog 95 = some [.v .any] := by kernel_rfl
@[simp] theorem sz_96 : sz Tryd.prog 96 = some 1 := by kernel_rfl
@[simp] theorem bytes_96 : bytes Tryd.prog 96 = some 8 := by kernel_rfl
@[simp] theorem szz_96 : szz Tryd.prog 96 = some 1 := by kernel_rfl
@[simp] theorem isAg_96 : isAg Tryd.prog 96 = some false := by kernel_rfl
@[simp] theorem zeroC_96 : zeroC Tryd.prog 96 = some [.v .any] := by kernel_rfl
@[simp] theorem sz_98 : sz Tryd.prog 98 = some 1 := by kernel_rfl
@[simp] theorem bytes_98 : bytes Tryd.prog 98 = some 8 := by kernel_rfl
@[simp] theorem szz_98 : szz Tryd.prog 98 = some 1 := by kernel_rfl
@[simp] theorem isAg_98 : isAg Tryd.prog 98 = some false := by kernel_rfl
@[simp] theorem zeroC_98 : zeroC Tryd.prog 98 = some [.v .any] := by kernel_rfl
@[simp] theorem sz_102 : sz Tryd.prog 102 = some 1 := by kernel_rfl
@[simp] theorem bytes_102 : bytes Tryd.prog 102 = some 8 := by kernel_rfl
@[simp] theorem szz_102 : szz Tryd.prog 102 = some 1 := by kernel_rfl
@[simp] theorem isAg_102 : isAg Tryd.prog 102 = some false := by kernel_rfl
@[simp] theorem zeroC_102 : zeroC Tryd.prog 102 = some [.v .any] := by kernel_rfl
@[simp] theorem sz_103 : sz Tryd.prog 103 = some 1 := by kernel_rfl
@[simp] theorem bytes_103 : bytes Tryd.prog 103 = some 8 := by kernel_rfl
@[simp] theorem szz_103 : szz Tryd.prog 103 = some 1 := by kernel_rfl
@[simp] theorem isAg_103 : isAg Tryd.prog 103 = some false := by kernel_rfl
@[simp] theorem zeroC_103 : zeroC Tryd.prog 103 = some [.v .any] := by kernel_rfl
@[simp] theorem sz_104 : sz Tryd.prog 104 = some 1 := by kernel_rfl
@[simp] theorem bytes_104 : bytes Tryd.prog 104 = some 8 := by kernel_rfl
@[simp] theorem szz_104 : szz Tryd.prog 104 = some 1 := by kernel_rfl
@[simp] theorem isAg_104 : isAg Tryd.prog 104 = some false := by kernel_rfl
@[simp] theorem zeroC_104 : zeroC Tryd.prog 104 = some [.v .any] := by kernel_rfl
@[simp] theorem sz_105 : sz Tryd.prog 105 = some 1 := by kernel_rfl
@[simp] theorem bytes_105 : bytes Tryd.prog 105 = some 8 := by kernel_rfl
@[simp] theorem szz_105 : szz Tryd.prog 105 = some 1 := by kernel_rfl
@[simp] theorem isAg_105 : isAg Tryd.prog 105 = some false := by kernel_rfl
@[simp] theorem zeroC_105 : zeroC Tryd.prog 105 = some [.v .any] := by kernel_rfl
@[simp] theorem sz_106 : sz Tryd.prog 106 = some 1 := by kernel_rfl
@[simp] theorem bytes_106 : bytes Tryd.prog 106 = some 8 := by kernel_rfl
@[simp] theorem szz_106 : szz Tryd.prog 106 = some 1 := by kernel_rfl
@[simp] theorem isAg_106 : isAg Tryd.prog 106 = some false := by kernel_rfl
@[simp] theorem zeroC_106 : zeroC Tryd.prog 106 = some [.v .any] := by kernel_rfl
@[simp] theorem sz_107 : sz Tryd.prog 107 = some 1 := by kernel_rfl
@[simp] theorem bytes_107 : bytes Tryd.prog 107 = some 8 := by kernel_rfl
@[simp] theorem szz_107 : szz Tryd.prog 107 = some 1 := by kernel_rfl
@[simp] theorem isAg_107 : isAg Tryd.prog 107 = some false := by kernel_rfl
@[simp] theorem zeroC_107 : zeroC Tryd.prog 107 = some [.v .any] := by kernel_rfl
@[simp] theorem sz_109 : sz Tryd.prog 109 = some 1 := by kernel_rfl
@[simp] theorem bytes_109 : bytes Tryd.prog 109 = some 8 := by kernel_rfl
@[simp] theorem szz_109 : szz Tryd.prog 109 = some 1 := by kernel_rfl
@[simp] theorem isAg_109 : isAg Tryd.prog 109 = some false := by kernel_rfl
@[simp] theorem zeroC_109 : zeroC Tryd.prog 109 = some [.v .any] := by kernel_rfl
@[simp] theorem sz_110 : sz Tryd.prog 110 = some 1 := by kernel_rfl
@[simp] theorem bytes_110 : bytes Tryd.prog 110 = some 8 := by kernel_rfl
@[simp] theorem szz_110 : szz Tryd.prog 110 = some 1 := by kernel_rfl
@[simp] theorem isAg_110 : isAg Tryd.prog 110 = some false := by kernel_rfl
@[simp] theorem zeroC_110 : zeroC Tryd.prog 110 = some [.v .any] := by kernel_rfl
@[simp] theorem sz_111 : sz Tryd.prog 111 = some 1 := by kernel_rfl
@[simp] theorem bytes_111 : bytes Tryd.prog 111 = some 8 := by kernel_rfl
@[simp] theorem szz_111 : szz Tryd.prog 111 = some 1 := by kernel_rfl
@[simp] theorem isAg_111 : isAg Tryd.prog 111 = some false := by kernel_rfl
@[simp] theorem zeroC_111 : zeroC Tryd.prog 111 = some [.v .any] := by kernel_rfl
@[simp] theorem sz_112 : sz Tryd.prog 112 = some 1 := by kernel_rfl
@[simp] theorem bytes_112 : bytes Tryd.prog 112 = some 24 := by kernel_rfl
@[simp] theorem szz_112 : szz Tryd.prog 112 = some 1 := by kernel_rfl
@[simp] theorem isAg_112 : isAg Tryd.prog 112 = some false := by kernel_rfl
@[simp] theorem elT_112 : elT Tryd.prog 112 = some 167 := by kernel_rfl
@[simp] theorem isStr_112 : isStr Tryd.prog 112 = some false := by kernel_rfl
@[simp] theorem zeroC_112 : zeroC Tryd.prog 112 = some [.nil] := by kernel_rfl
@[simp] theorem sz_113 : sz Tryd.prog 113 = some 2 := by kernel_rfl
@[simp] theorem bytes_113 : bytes Tryd.prog 113 = some 32 := by kernel_rfl
@[simp] theorem szz_113 : szz Tryd.prog 113 = some 2 := by kernel_rfl
@[simp] theorem isAg_113 : isAg Tryd.prog 113 = some true := by kernel_rfl
@[simp] theorem zeroC_113 : zeroC Tryd.prog 113 = some [.v (.int .i64 0), .nil] := by kernel_rfl
@[simp] theorem fieldsOk_113 : fieldsOk Tryd.prog 113 = true := by kernel_rfl
@[simp] theorem fo_113_0 : fo Tryd.prog 113 0 = some 0 := by kernel_rfl
@[simp] theorem fsz_113_0 : fsz Tryd.prog 113 0 = some 1 := by kernel_rfl
@[simp] theorem fo_113_1 : fo Tryd.prog 113 1 = some 1 := by kernel_rfl
@[simp] theorem fsz_113_1 : fsz Tryd.prog 113 1 = some 1 := by kernel_rfl
@[simp] theorem sz_114 : sz Tryd.prog 114 = some 2 := by kernel_rfl
@[simp] theorem bytes_114 : bytes Tryd.prog 114 = some 32 := by kernel_rfl
@[simp] theorem szz_114 : szz Tryd.prog 114 = some 2 := by kernel_rfl
@[simp] theorem isAg_114 : isAg Tryd.prog 114 = some true := by kernel_rfl
@[simp] theorem zeroC_114 : zeroC Tryd.prog 114 = some [.v (.int .i64 0), .nil] := by kernel_rfl
@[simp] theorem fieldsOk_114 : fieldsOk Tryd.prog 114 = true := by kernel_rfl
@[simp] theorem fo_114_0 : fo Tryd.prog 114 0 = some 0 := by kernel_rfl
@[simp] theorem fsz_114_0 : fsz Tryd.prog 114 0 = some 1 := by kernel_rfl
@[simp] theorem fo_114_1 : fo Tryd.prog 114 1 = some 1 := by kernel_rfl
@[simp] theorem fsz_114_1 : fsz Tryd.prog 114 1 = some 1 := by kernel_rfl
@[simp] theorem sz_115 : sz Tryd.prog 115 = some 1 := by kernel_rfl
@[simp] theorem bytes_115 : bytes Tryd.prog 115 = some 8 := by kernel_rfl
@[simp] theorem szz_115 : szz Tryd.prog 115 = some 1 := by kernel_rfl
@[simp] theorem isAg_115 : isAg Tryd.prog 115 = some false := by kernel_rfl
@[simp] theorem zeroC_115 : zeroC Tryd.prog 115 = some [.v .any] := by kernel_rfl
@[simp] theorem sz_116 : sz Tryd.prog 116 = some 1 := by kernel_rfl
@[simp] theorem bytes_116 : bytes Tryd.prog 116 = some 8 := by kernel_rfl
@[simp] theorem szz_116 : szz Tryd.prog 116 = some 1 := by kernel_rfl
@[simp] theorem isAg_116 : isAg Tryd.prog 116 = some false := by kernel_rfl
@[simp] theorem zeroC_116 : zeroC Tryd.prog 116 = some [.v .any] := by kernel_rfl
@[simp] theorem sz_117 : sz Tryd.prog 117 = some 1 := by kernel_rfl
@[simp] theorem bytes_117 : bytes Tryd.prog 117 = some 8 := by kernel_rfl
@[simp] theorem szz_117 : szz Tryd.prog 117 = some 1 := by kernel_rfl
@[simp] theorem isAg_117 : isAg Tryd.prog 117 = some false := by kernel_rfl
@[simp] theorem zeroC_117 : zeroC Tryd.prog 117 = some [.v .any] := by kernel_rfl
@[simp] theorem sz_118 : sz Tryd.prog 118 = some 1 := by kernel_rfl
@[simp] theorem bytes_118 : bytes Tryd.prog 118 = some 8 := by kernel_rfl
@[simp] theorem szz_118 : szz Tryd.prog 118 = some 1 := by kernel_rfl
@[simp] theorem isAg_118 : isAg Tryd.prog 118 = some false := by kernel_rfl
@[simp] theorem zeroC_118 : zeroC Tryd.prog 118 = some [.v .any] := by kernel_rfl
@[simp] theorem sz_119 : sz Tryd.prog 119 = some 2 := by kernel_rfl
@[simp] theorem bytes_119 : bytes Tryd.prog 119 = some 32 := by kernel_rfl
@[simp] theorem szz_119 : szz Tryd.prog 119 = some 2 := by kernel_rfl
@[simp] theorem isAg_119 : isAg Tryd.prog 119 = some true := by kernel_rfl
@[simp] theorem fieldsOk_119 : fieldsOk Tryd.prog 119 = true := by kernel_rfl
@[simp] theorem fo_119_0 : fo Tryd.prog 119 0 = some 0 := by kernel_rfl
@[simp] theorem fsz_119_0 : fsz Tryd.prog 119 0 = some 1 := by kernel_rfl
@[simp] theorem fo_119_1 : fo Tryd.prog 119 1 = some 1 := by kernel_rfl
@[simp] theorem fsz_119_1 : fsz Tryd.prog 119 1 = some 1 := by kernel_rfl
@[simp] theorem sz_120 : sz Tryd.prog 120 = some 2 := by kernel_rfl
@[simp] theorem bytes_120 : bytes Tryd.prog 120 = some 32 := by kernel_rfl
@[simp] theorem szz_120 : szz Tryd.prog 120 = some 2 := by kernel_rfl
@[simp] theorem isAg_120 : isAg Tryd.prog 120 = some true := by kernel_rfl
@[simp] theorem fieldsOk_120 : fieldsOk Tryd.prog 120 = true := by kernel_rfl
@[simp] theorem fo_120_0 : fo Tryd.prog 120 0 = some 0 := by kernel_rfl
@[simp] theorem fsz_120_0 : fsz Tryd.prog 120 0 = some 1 := by kernel_rfl
@[simp] theorem fo_120_1 : fo Tryd.prog 120 1 = some 1 := by kernel_rfl
@[simp] theorem fsz_120_1 : fsz Tryd.prog 120 1 = some 1 := by kernel_rfl
@[simp] theorem sz_121 : sz Tryd.prog 121 = some 1 := by kernel_rfl
@[simp] theorem bytes_121 : bytes Tryd.prog 121 = some 8 := by kernel_rfl
@[simp] theorem szz_121 : szz Tryd.prog 121 = some 1 := by kernel_rfl
@[simp] theorem isAg_121 : isAg Tryd.prog 121 = some false := by kernel_rfl
@[simp] theorem zeroC_121 : zeroC Tryd.prog 121 = some [.v .any] := by kernel_rfl
@[simp] theorem sz_122 : sz Tryd.prog 122 = some 1 := by kernel_rfl
@[simp] theorem bytes_122 : bytes Tryd.prog 122 = some 8 := by kernel_rfl
@[simp] theorem szz_122 : szz Tryd.prog 122 = some 1 := by kernel_rfl
@[simp] theorem isAg_122 : isAg Tryd.prog 122 = some false := by kernel_rfl
@[simp] theorem zeroC_122 : zeroC Tryd.prog 122 = some [.v .any] := by kernel_rfl
@[simp] theorem sz_123 : sz Tryd.prog 123 = some 1 := by kernel_rfl
@[simp] theorem bytes_123 : bytes Tryd.prog 123 = some 8 := by kernel_rfl
@[simp] theorem szz_123 : szz Tryd.prog 123 = some 1 := by kernel_rfl
@[simp] theorem isAg_123 : isAg Tryd.prog 123 = some false := by kernel_rfl
@[simp] theorem zeroC_123 : zeroC Tryd.prog 123 = some [.v .any] := by kernel_rfl
@[simp] theorem sz_124 : sz Tryd.prog 124 = some 1 := by kernel_rfl
@[simp] theorem bytes_124 : bytes Tryd.prog 124 = some 8 := by kernel_rfl
@[simp] theorem szz_124 : szz Tryd.prog 124 = some 1 := by kernel_rfl
@[simp] theorem isAg_124 : isAg Tryd.prog 124 = some false := by kernel_rfl
@[simp] theorem zeroC_124 : zeroC Tryd.prog 124 = some [.v .any] := by kernel_rfl
@[simp] theorem sz_125 : sz Tryd.prog 125 = some 2 := by kernel_rfl
@[simp] theorem bytes_125 : bytes Tryd.prog 125 = some 16 := by kernel_rfl
@[simp] theorem szz_125 : szz Tryd.prog 125 = some 2 := by kernel_rfl
@[simp] theorem isAg_125 : isAg Tryd.prog 125 = some true := by kernel_rfl
@[simp] theorem zeroC_125 : zeroC Tryd.prog 125 = some [.v (.int .i64 0), .v (.int .i64 0)] := by kernel_rfl
@[simp] theorem fieldsOk_125 : fieldsOk Tryd.prog 125 = true := by kernel_rfl
@[simp] theorem eqKinds_125 : eqKinds Tryd.prog 125 = some [1, 1] := by kernel_rfl
@[simp] theorem fo_125_0 : fo Tryd.prog 125 0 = some 0 := by kernel_rfl
@[simp] theorem fsz_125_0 : fsz Tryd.prog 125 0 = some 1 := by kernel_rfl
@[simp] theorem fo_125_1 : fo Tryd.prog 125 1 = some 1 := by kernel_rfl
@[simp] theorem fsz_125_1 : fsz Tryd.prog 125 1 = some 1 := by kernel_rfl
@[simp] theorem sz_126 : sz Tryd.prog 126 = some 2 := by kernel_rfl
@[simp] theorem bytes_126 : bytes Tryd.prog 126 = some 16 := by kernel_rfl
@[simp] theorem szz_126 : szz Tryd.prog 126 = some 2 := by kernel_rfl
@[simp] theorem isAg_126 : isAg Tryd.prog 126 = some true := by kernel_rfl
@[simp] theorem zeroC_126 : zeroC Tryd.prog 126 = some [.v (.int .i64 0), .v (.int .i64 0)] := by kernel_rfl
@[simp] theorem fieldsOk_126 : fieldsOk Tryd.prog 126 = true := by kernel_rfl
@[simp] theorem eqKinds_126 : eqKinds Tryd.prog 126 = some [1, 1] := by kernel_rfl
@[simp] theorem fo_126_0 : fo Tryd.prog 126 0 = some 0 := by kernel_rfl
@[simp] theorem fsz_126_0 : fsz Tryd.prog 126 0 = some 1 := by kernel_rfl
@[simp] theorem fo_126_1 : fo Tryd.prog 126 1 = some 1 := by kernel_rfl
@[simp] theorem fsz_126_1 : fsz Tryd.prog 126 1 = some 1 := by kernel_rfl
@[simp] theorem sz_127 : sz Tryd.prog 127 = some 2 := by kernel_rfl
@[simp] theorem bytes_127 : bytes Tryd.prog 127 = some 32 := by kernel_rfl
@[simp] theorem szz_127 : szz Tryd.prog 127 = some 2 := by kernel_rfl
@[simp] theorem isAg_127 : isAg Tryd.prog 127 = some true := by kernel_rfl
@[simp] theorem zeroC_127 : zeroC Tryd.prog 127 = some [.nil, .v (.int .i64 0)] := by kernel_rfl
@[simp] theorem fieldsOk_127 : fieldsOk Tryd.prog 127 = true := by kernel_rfl
@[simp] theorem fo_127_0 : fo Tryd.prog 127 0 = some 0 := by kernel_rfl
@[simp] theorem fsz_127_0 : fsz Tryd.prog 127 0 = some 1 := by kernel_rfl
@[simp] theorem fo_127_1 : fo Tryd.prog 127 1 = some 1 := by kernel_rfl
@[simp] theorem fsz_127_1 : fsz Tryd.prog 127 1 = some 1 := by kernel_rfl
@[simp] theorem sz_128 : sz Tryd.prog 128 = some 2 := by kernel_rfl
@[simp] theorem bytes_128 : bytes Tryd.prog 128 = some 32 := by kernel_rfl
@[simp] theorem szz_128 : szz Tryd.prog 128 = some 2 := by kernel_rfl
@[simp] theorem isAg_128 : isAg Tryd.prog 128 = some true := by kernel_rfl
@[simp] theorem zeroC_128 : zeroC Tryd.prog 128 = some [.nil, .v (.int .i64 0)] := by kernel_rfl
@[simp] theorem fieldsOk_128 : fieldsOk Tryd.prog 128 = true := by kernel_rfl
@[simp] theorem fo_128_0 : fo Tryd.prog 128 0 = some 0 := by kernel_rfl
@[simp] theorem fsz_128_0 : fsz Tryd.prog 128 0 = some 1 := by kernel_rfl
@[simp] theorem fo_128_1 : fo Tryd.prog 128 1 = some 1 := by kernel_rfl
@[simp] theorem fsz_128_1 : fsz Tryd.prog 128 1 = some 1 := by kernel_rfl
@[simp] theorem sz_129 : sz Tryd.prog 129 = some 1 := by kernel_rfl
@[simp] theorem bytes_129 : bytes Tryd.prog 129 = some 8 := by kernel_rfl
@[simp] theorem szz_129 : szz Tryd.prog 129 = some 1 := by kernel_rfl
@[simp] theorem isAg_129 : isAg Tryd.prog 129 = some false := by kernel_rfl
@[simp] theorem zeroC_129 : zeroC Tryd.prog 129 = some [.v .any] := by kernel_rfl
@[simp] theorem sz_130 : sz Tryd.prog 130 = some 1 := by kernel_rfl
@[simp] theorem bytes_130 : bytes Tryd.prog 130 = some 8 := by kernel_rfl
@[simp] theorem szz_130 : szz Tryd.prog 130 = some 1 := by kernel_rfl
@[simp] theorem isAg_130 : isAg Tryd.prog 130 = some false := by kernel_rfl
@[simp] theorem zeroC_130 : zeroC Tryd.prog 130 = some [.v .any] := by kernel_rfl
@[simp] theorem sz_131 : sz Tryd.prog 131 = some 1 := by kernel_rfl
@[simp] theorem bytes_131 : bytes Tryd.prog 131 = some 24 := by kernel_rfl
@[simp] theorem szz_131 : szz Tryd.prog 131 = some 1 := by kernel_rfl
@[simp] theorem isAg_131 : isAg Tryd.prog 131 = some false := by kernel_rfl
@[simp] theorem elT_131 : elT Tryd.prog 131 = some 3 := by kernel_rfl
@[simp] theorem isStr_131 : isStr Tryd.prog 131 = some false := by kernel_rfl
@[simp] theorem zeroC_131 : zeroC Tryd.prog 131 = some [.nil] := by kernel_rfl
@[simp] theorem sz_132 : sz Tryd.prog 132 = some 1 := by kernel_rfl
@[simp] theorem bytes_132 : bytes Tryd.prog 132 = some 8 := by kernel_rfl
@[simp] theorem szz_132 : szz Tryd.prog 132 = some 1 := by kernel_rfl
@[simp] theorem isAg_132 : isAg Tryd.prog 132 = some false := by kernel_rfl
@[simp] theorem zeroC_132 : zeroC Tryd.prog 132 = some [.v .any] := by kernel_rfl
@[simp] theorem sz_134 : sz Tryd.prog 134 = some 1 := by kernel_rfl
@[simp] theorem bytes_134 : bytes Tryd.prog 134 = some 8 := by kernel_rfl
@[simp] theorem szz_134 : szz Tryd.prog 134 = some 1 := by kernel_rfl
@[simp] theorem isAg_134 : isAg Tryd.prog 134 = some false := by kernel_rfl
@[simp] theorem zeroC_134 : zeroC Tryd.prog 134 = some [.v .any] := by kernel_rfl
@[simp] theorem sz_135 : sz Tryd.prog 135 = some 1 := by kernel_rfl
@[simp] theorem bytes_135 : bytes Tryd.prog 135 = some 8 := by kernel_rfl
@[simp] theorem szz_135 : szz Tryd.prog 135 = some 1 := by kernel_rfl
@[simp] theorem isAg_135 : isAg Tryd.prog 135 = some false := by kernel_rfl
@[simp] theorem zeroC_135 : zeroC Tryd.prog 135 = some [.v .any] := by kernel_rfl
@[simp] theorem sz_137 : sz Tryd.prog 137 = some 1 := by kernel_rfl
@[simp] theorem bytes_137 : bytes Tryd.prog 137 = some 8 := by kernel_rfl
@[simp] theorem szz_137 : szz Tryd.prog 137 = some 1 := by kernel_rfl
@[simp] theorem isAg_137 : isAg Tryd.prog 137 = some false := by kernel_rfl
@[simp] theorem zeroC_137 : zeroC Tryd.prog 137 = some [.v .any] := by kernel_rfl
@[simp] theorem sz_138 : sz Tryd.prog 138 = some 1 := by kernel_rfl
@[simp] theorem bytes_138 : bytes Tryd.prog 138 = some 8 := by kernel_rfl
@[simp] theorem szz_138 : szz Tryd.prog 138 = some 1 := by kernel_rfl
@[simp] theorem isAg_138 : isAg Tryd.prog 138 = some false := by kernel_rfl
@[simp] theorem zeroC_138 : zeroC Tryd.prog 138 = some [.v .any] := by kernel_rfl
@[simp] theorem sz_139 : sz Tryd.prog 139 = some 1 := by kernel_rfl
@[simp] theorem bytes_139 : bytes Tryd.prog 139 = some 8 := by kernel_rfl
@[simp] theorem szz_139 : szz Tryd.prog 139 = some 1 := by kernel_rfl
@[simp] theorem isAg_139 : isAg Tryd.prog 139 = some false := by kernel_rfl
@[simp] theorem zeroC_139 : zeroC Tryd.prog 139 = some [.v .any] := by kernel_rfl
@[simp] theorem sz_140 : sz Tryd.prog 140 = some 1 := by kernel_rfl
@[simp] theorem bytes_140 : bytes Tryd.prog 140 = some 8 := by kernel_rfl
@[simp] theorem szz_140 : szz Tryd.prog 140 = some 1 := by kernel_rfl
@[simp] theorem isAg_140 : isAg Tryd.prog 140 = some false := by kernel_rfl
@[simp] theorem zeroC_140 : zeroC Tryd.prog 140 = some [.v .any] := by kernel_rfl
@[simp] theorem sz_141 : sz Tryd.prog 141 = some 1 := by kernel_rfl
@[simp] theorem bytes_141 : bytes Tryd.prog 141 = some 8 := by kernel_rfl
@[simp] theorem szz_141 : szz Tryd.prog 141 = some 1 := by kernel_rfl
@[simp] theorem isAg_141 : isAg Tryd.prog 141 = some false := by kernel_rfl
@[simp] theorem zeroC_141 : zeroC Tryd.prog 141 = some [.v .any] := by kernel_rfl
@[simp] theorem sz_142 : sz Tryd.prog 142 = some 1 := by kernel_rfl
@[simp] theorem bytes_142 : bytes Tryd.prog 142 = some 8 := by kernel_rfl
@[simp] theorem szz_142 : szz Tryd.prog 142 = some 1 := by kernel_rfl
@[simp] theorem isAg_142 : isAg Tryd.prog 142 = some false := by kernel_rfl
@[simp] theorem zeroC_142 : zeroC Tryd.prog 142 = some [.v .any] := by kernel_rfl
@[simp] theorem sz_143 : sz Tryd.prog 143 = some 1 := by kernel_rfl
@[simp] theorem bytes_143 : bytes Tryd.prog 143 = some 8 := by kernel_rfl
@[simp] theorem szz_143 : szz Tryd.prog 143 = some 1 := by kernel_rfl
@[simp] theorem isAg_143 : isAg Tryd.prog 143 = some false := by kernel_rfl
@[simp] theorem zeroC_143 : zeroC Tryd.prog 143 = some [.v .any] := by kernel_rfl
@[simp] theorem sz_144 : sz Tryd.prog 144 = some 1 := by kernel_rfl
@[simp] theorem bytes_144 : bytes Tryd.prog 144 = some 8 := by kernel_rfl
@[simp] theorem szz_144 : szz Tryd.prog 144 = some 1 := by kernel_rfl
@[simp] theorem isAg_144 : isAg Tryd.prog 144 = some false := by kernel_rfl
@[simp] theorem zeroC_144 : zeroC Tryd.prog 144 = some [.v .any] := by kernel_rfl
@[simp] theorem sz_145 : sz Tryd.prog 145 = some 1 := by kernel_rfl
@[simp] theorem bytes_145 : bytes Tryd.prog 145 = some 8 := by kernel_rfl
@[simp] theorem szz_145 : szz Tryd.prog 145 = some 1 := by kernel_rfl
@[simp] theorem isAg_145 : isAg Tryd.prog 145 = some false := by kernel_rfl
@[simp] theorem zeroC_145 : zeroC Tryd.prog 145 = some [.v .any] := by kernel_rfl
@[simp] theorem sz_146 : sz Tryd.prog 146 = some 1 := by kernel_rfl
@[simp] theorem bytes_146 : bytes Tryd.prog 146 = some 8 := by kernel_rfl
@[simp] theorem szz_146 : szz Tryd.prog 146 = some 1 := by kernel_rfl
@[simp] theorem isAg_146 : isAg Tryd.prog 146 = some false := by kernel_rfl
@[simp] theorem zeroC_146 : zeroC Tryd.prog 146 = some [.v .any] := by kernel_rfl
@[simp] theorem sz_147 : sz Tryd.prog 147 = some 1 := by kernel_rfl
@[simp] theorem bytes_147 : bytes Tryd.prog 147 = some 8 := by kernel_rfl
@[simp] theorem szz_147 : szz Tryd.prog 147 = some 1 := by kernel_rfl
@[simp] theorem isAg_147 : isAg Tryd.prog 147 = some false := by kernel_rfl
@[simp] theorem zeroC_147 : zeroC Tryd.prog 147 = some [.v .any] := by kernel_rfl
@[simp] theorem sz_148 : sz Tryd.prog 148 = some 1 := by kernel_rfl
@[simp] theorem bytes_148 : bytes Tryd.prog 148 = some 8 := by kernel_rfl
@[simp] theorem szz_148 : szz Tryd.prog 148 = some 1 := by kernel_rfl
@[simp] theorem isAg_148 : isAg Tryd.prog 148 = some false := by kernel_rfl
@[simp] theorem zeroC_148 : zeroC Tryd.prog 148 = some [.v .any] := by kernel_rfl
@[simp] theorem sz_149 : sz Tryd.prog 149 = some 1 := by kernel_rfl
@[simp] theorem bytes_149 : bytes Tryd.prog 149 = some 8 := by kernel_rfl
@[simp] theorem szz_149 : szz Tryd.prog 149 = some 1 := by kernel_rfl
@[simp] theorem isAg_149 : isAg Tryd.prog 149 = some false := by kernel_rfl
@[simp] theorem zeroC_149 : zeroC Tryd.prog 149 = some [.v .any] := by kernel_rfl
@[simp] theorem sz_150 : sz Tryd.prog 150 = some 1 := by kernel_rfl
@[simp] theorem bytes_150 : bytes Tryd.prog 150 = some 8 := by kernel_rfl
@[simp] theorem szz_150 : szz Tryd.prog 150 = some 1 := by kernel_rfl
@[simp] theorem isAg_150 : isAg Tryd.prog 150 = some false := by kernel_rfl
@[simp] theorem zeroC_150 : zeroC Tryd.prog 150 = some [.v .any] := by kernel_rfl
@[simp] theorem sz_151 : sz Tryd.prog 151 = some 1 := by kernel_rfl
@[simp] theorem bytes_151 : bytes Tryd.prog 151 = some 8 := by kernel_rfl
@[simp] theorem szz_151 : szz Tryd.prog 151 = some 1 := by kernel_rfl
@[simp] theorem isAg_151 : isAg Tryd.prog 151 = some false := by kernel_rfl
@[simp] theorem zeroC_151 : zeroC Tryd.prog 151 = some [.v .any] := by kernel_rfl
@[simp] theorem sz_152 : sz Tryd.prog 152 = some 1 := by kernel_rfl
@[simp] theorem bytes_152 : bytes Tryd.prog 152 = some 8 := by kernel_rfl
@[simp] theorem szz_152 : szz Tryd.prog 152 = some 1 := by kernel_rfl
@[simp] theorem isAg_152 : isAg Tryd.prog 152 = some false := by kernel_rfl
@[simp] theorem intK_152 : intK Tryd.prog 152 = some .i64 := by kernel_rfl
@[simp] theorem zeroC_152 : zeroC Tryd.prog 152 = some [.v (.int .i64 0)] := by kernel_rfl
@[simp] theorem sz_154 : sz Tryd.prog 154 = some 1 := by kernel_rfl
@[simp] theorem bytes_154 : bytes Tryd.prog 154 = some 8 := by kernel_rfl
@[simp] theorem szz_154 : szz Tryd.prog 154 = some 1 := by kernel_rfl
@[simp] theorem isAg_154 : isAg Tryd.prog 154 = some false := by kernel_rfl
@[simp] theorem zeroC_154 : zeroC Tryd.prog 154 = some [.v .any] := by kernel_rfl
@[simp] theorem sz_155 : sz Tryd.prog 155 = some 1 := by kernel_rfl
@[simp] theorem bytes_155 : bytes Tryd.prog 155 = some 8 := by kernel_rfl
@[simp] theorem szz_155 : szz Tryd.prog 155 = some 1 := by kernel_rfl
@[simp] theorem isAg_155 : isAg Tryd.prog 155 = some false := by kernel_rfl
@[simp] theorem zeroC_155 : zeroC Tryd.prog 155 = some [.v .any] := by kernel_rfl
@[simp] theorem sz_156 : sz Tryd.prog 156 = some 1 := by kernel_rfl
@[simp] theorem bytes_156 : bytes Tryd.prog 156 = some 8 := by kernel_rfl
@[simp] theorem szz_156 : szz Tryd.prog 156 = some 1 := by kernel_rfl
@[simp] theorem isAg_156 : isAg Tryd.prog 156 = some false := by kernel_rfl
@[simp] theorem zeroC_156 : zeroC Tryd.prog 156 = some [.v .any] := by kernel_rfl
@[simp] theorem sz_157 : sz Tryd.prog 157 = some 1 := by kernel_rfl
@[simp] theorem bytes_157 : bytes Tryd.prog 157 = some 8 := by kernel_rfl
@[simp] theorem szz_157 : szz Tryd.prog 157 = some 1 := by kernel_rfl
@[simp] theorem isAg_157 : isAg Tryd.prog 157 = some false := by kernel_rfl
@[simp] theorem zeroC_157 : zeroC Tryd.prog 157 = some [.v .any] := by kernel_rfl
@[simp] theorem sz_158 : sz Tryd.prog 158 = some 1 := by kernel_rfl
@[simp] theorem bytes_158 : bytes Tryd.prog 158 = some 8 := by kernel_rfl
@[simp] theorem szz_158 : szz Tryd.prog 158 = some 1 := by kernel_rfl
@[simp] theorem isAg_158 : isAg Tryd.prog 158 = some false := by kernel_rfl
@[simp] theorem zeroC_158 : zeroC Tryd.prog 158 = some [.v .any] := by kernel_rfl
@[simp] theorem sz_159 : sz Tryd.prog 159 = some 1 := by kernel_rfl
@[simp] theorem bytes_159 : bytes Tryd.prog 159 = some 8 := by kernel_rfl
@[simp] theorem szz_159 : szz Tryd.prog 159 = some 1 := by kernel_rfl
@[simp] theorem isAg_159 : isAg Tryd.prog 159 = some false := by kernel_rfl
@[simp] theorem zeroC_159 : zeroC Tryd.prog 159 = some [.v .any] := by kernel_rfl
@[simp] theorem sz_161 : sz Tryd.prog 161 = some 1 := by kernel_rfl
@[simp] theorem bytes_161 : bytes Tryd.prog 161 = some 8 := by kernel_rfl
@[simp] theorem szz_161 : szz Tryd.prog 161 = some 1 := by kernel_rfl
@[simp] theorem isAg_161 : isAg Tryd.prog 161 = some false := by kernel_rfl
@[simp] theorem intK_161 : intK Tryd.prog 161 = some .u64 := by kernel_rfl
@[simp] theorem zeroC_161 : zeroC Tryd.prog 161 = some [.v (.int .u64 0)] := by kernel_rfl
@[simp] theorem sz_162 : sz Tryd.prog 162 = some 1 := by kernel_rfl
@[simp] theorem bytes_162 : bytes Tryd.prog 162 = some 8 := by kernel_rfl
@[simp] theorem szz_162 : szz Tryd.prog 162 = some 1 := by kernel_rfl
@[simp] theorem isAg_162 : isAg Tryd.prog 162 = some false := by kernel_rfl
@[simp] theorem zeroC_162 : zeroC Tryd.prog 162 = some [.v .any] := by kernel_rfl
@[simp] theorem sz_163 : sz Tryd.prog 163 = some 1 := by kernel_rfl
@[simp] theorem bytes_163 : bytes Tryd.prog 163 = some 8 := by kernel_rfl
@[simp] theorem szz_163 : szz Tryd.prog 163 = some 1 := by kernel_rfl
@[simp] theorem isAg_163 : isAg Tryd.prog 163 = some false := by kernel_rfl
@[simp] theorem zeroC_163 : zeroC Tryd.prog 163 = some [.v .any] := by kernel_rfl
@[simp] theorem sz_165 : sz Tryd.prog 165 = some 1 := by kernel_rfl
@[simp] theorem bytes_165 : bytes Tryd.prog 165 = some 8 := by kernel_rfl
@[simp] theorem szz_165 : szz Tryd.prog 165 = some 1 := by kernel_rfl
@[simp] theorem isAg_165 : isAg Tryd.prog 165 = some false := by kernel_rfl
@[simp] theorem zeroC_165 : zeroC Tryd.prog 165 = some [.v .any] := by kernel_rfl
@[simp] theorem sz_166 : sz Tryd.prog 166 = some 1 := by kernel_rfl
@[simp] theorem bytes_166 : bytes Tryd.prog 166 = some 8 := by kernel_rfl
@[simp] theorem szz_166 : szz Tryd.prog 166 = some 1 := by kernel_rfl
@[simp] theorem isAg_166 : isAg Tryd.prog 166 = some false := by kernel_rfl
@[simp] theorem zeroC_166 : zeroC Tryd.prog 166 = some [.v .any] := by kernel_rfl
@[simp] theorem sz_167 : sz Tryd.prog 167 = some 2 := by kernel_rfl
@[simp] theorem bytes_167 : bytes Tryd.prog 167 = some 16 := by kernel_rfl
@[simp] theorem szz_167 : szz Tryd.prog 167 = some 2 := by kernel_rfl
@[simp] theorem isAg_167 : isAg Tryd.prog 167 = some true := by kernel_rfl
@[simp] theorem zeroC_167 : zeroC Tryd.prog 167 = some [.v (.int .i64 0), .v (.int .i64 0)] := by kernel_rfl
@[simp] theorem fieldsOk_167 : fieldsOk Tryd.prog 167 = true := by kernel_rfl
@[simp] theorem eqKinds_167 : eqKinds Tryd.prog 167 = some [1, 1] := by kernel_rfl
@[simp] theorem fo_167_0 : fo Tryd.prog 167 0 = some 0 := by kernel_rfl
@[simp] theorem fsz_167_0 : fsz Tryd.prog 167 0 = some 1 := by kernel_rfl
@[simp] theorem fo_167_1 : fo Tryd.prog 167 1 = some 1 := by kernel_rfl
@[simp] theorem fsz_167_1 : fsz Tryd.prog 167 1 = some 1 := by kernel_rfl
@[simp] theorem sz_169 : sz Tryd.prog 169 = some 1 := by kernel_rfl
@[simp] theorem bytes_169 : bytes Tryd.prog 169 = some 8 := by kernel_rfl
@[simp] theorem szz_169 : szz Tryd.prog 169 = some 1 := by kernel_rfl
@[simp] theorem isAg_169 : isAg Tryd.prog 169 = some false := by kernel_rfl
@[simp] theorem zeroC_169 : zeroC Tryd.prog 169 = some [.v .any] := by kernel_rfl
@[simp] theorem sz_170 : sz Tryd.prog 170 = some 1 := by kernel_rfl
@[simp] theorem bytes_170 : bytes Tryd.prog 170 = some 8 := by kernel_rfl
@[simp] theorem szz_170 : szz Tryd.prog 170 = some 1 := by kernel_rfl
@[simp] theorem isAg_170 : isAg Tryd.prog 170 = some false := by kernel_rfl
@[simp] theorem zeroC_170 : zeroC Tryd.prog 170 = some [.v .any] := by kernel_rfl
@[simp] theorem sz_171 : sz Tryd.prog 171 = some 1 := by kernel_rfl
@[simp] theorem bytes_171 : bytes Tryd.prog 171 = some 8 := by kernel_rfl
@[simp] theorem szz_171 : szz Tryd.prog 171 = some 1 := by kernel_rfl
@[simp] theorem isAg_171 : isAg Tryd.prog 171 = some false := by kernel_rfl
@[simp] theorem zeroC_171 : zeroC Tryd.prog 171 = some [.v .any] := by kernel_rfl
@[simp] theorem sz_172 : sz Tryd.prog 172 = some 1 := by kernel_rfl
@[simp] theorem bytes_172 : bytes Tryd.prog 172 = some 24 := by kernel_rfl
@[simp] theorem szz_172 : szz Tryd.prog 172 = some 1 := by kernel_rfl
@[simp] theorem isAg_172 : isAg Tryd.prog 172 = some false := by kernel_rfl
@[simp] theorem elT_172 : elT Tryd.prog 172 = some 78 := by kernel_rfl
@[simp] theorem isStr_172 : isStr Tryd.prog 172 = some false := by kernel_rfl
@[simp] theorem zeroC_172 : zeroC Tryd.prog 172 = some [.nil] := by kernel_rfl
@[simp] theorem sz_174 : sz Tryd.prog 174 = some 1 := by kernel_rfl
@[simp] theorem bytes_174 : bytes Tryd.prog 174 = some 8 := by kernel_rfl
@[simp] theorem szz_174 : szz Tryd.prog 174 = some 1 := by kernel_rfl
@[simp] theorem isAg_174 : isAg Tryd.prog 174 = some false := by kernel_rfl
@[simp] theorem zeroC_174 : zeroC Tryd.prog 174 = some [.v .any] := by kernel_rfl
@[simp] theorem sz_175 : sz Tryd.prog 175 = some 1 := by kernel_rfl
@[simp] theorem bytes_175 : bytes Tryd.prog 175 = some 8 := by kernel_rfl
@[simp] theorem szz_175 : szz Tryd.prog 175 = some 1 := by kernel_rfl
@[simp] theorem isAg_175 : isAg Tryd.prog 175 = some false := by kernel_rfl
@[simp] theorem zeroC_175 : zeroC Tryd.prog 175 = some [.v .any] := by kernel_rfl
@[simp] theorem sz_176 : sz Tryd.prog 176 = some 1 := by kernel_rfl
@[simp] theorem bytes_176 : bytes Tryd.prog 176 = some 8 := by kernel_rfl
@[simp] theorem szz_176 : szz Tryd.prog 176 = some 1 := by kernel_rfl
@[simp] theorem isAg_176 : isAg Tryd.prog 176 = some false := by kernel_rfl
@[simp] theorem intK_176 : intK Tryd.prog 176 = some .u64 := by kernel_rfl
@[simp] theorem zeroC_176 : zeroC Tryd.prog 176 = some [.v (.int .u64 0)] := by kernel_rfl
@[simp] theorem sz_178 : sz Tryd.prog 178 = some 1 := by kernel_rfl
@[simp] theorem bytes_178 : bytes Tryd.prog 178 = some 8 := by kernel_rfl
@[simp] theorem szz_178 : szz Tryd.prog 178 = some 1 := by kernel_rfl
@[simp] theorem isAg_178 : isAg Tryd.prog 178 = some false := by kernel_rfl
@[simp] theorem zeroC_178 : zeroC Tryd.prog 178 = some [.v .any] := by kernel_rfl
@[simp] theorem sz_179 : sz Tryd.prog 179 = some 1 := by kernel_rfl
@[simp] theorem bytes_179 : bytes Tryd.prog 179 = some 8 := by kernel_rfl
@[simp] theorem szz_179 : szz Tryd.prog 179 = some 1 := by kernel_rfl
@[simp] theorem isAg_179 : isAg Tryd.prog 179 = some false := by kernel_rfl
@[simp] theorem zeroC_179 : zeroC Tryd.prog 179 = some [.v .any] := by kernel_rfl
@[simp] theorem sz_180 : sz Tryd.prog 180 = some 3 := by kernel_rfl
@[simp] theorem bytes_180 : bytes Tryd.prog 180 = some 48 := by kernel_rfl
@[simp] theorem szz_180 : szz Tryd.prog 180 = some 3 := by kernel_rfl
@[simp] theorem isAg_180 : isAg Tryd.prog 180 = some true := by kernel_rfl
@[simp] theorem zeroC_180 : zeroC Tryd.prog 180 = some [.v (.str []), .v (.str []), .v .any] := by kernel_rfl
@[simp] theorem fieldsOk_180 : fieldsOk Tryd.prog 180 = true := by kernel_rfl
@[simp] theorem fo_180_0 : fo Tryd.prog 180 0 = some 0 := by kernel_rfl
@[simp] theorem fsz_180_0 : fsz Tryd.prog 180 0 = some 1 := by kernel_rfl
@[simp] theorem fo_180_1 : fo Tryd.prog 180 1 = some 1 := by kernel_rfl
@[simp] theorem fsz_180_1 : fsz Tryd.prog 180 1 = some 1 := by kernel_rfl
@[simp] theorem fo_180_2 : fo Tryd.prog 180 2 = some 2 := by kernel_rfl
@[simp] theorem fsz_180_2 : fsz Tryd.prog 180 2 = some 1 := by kernel_rfl
@[simp] theorem sz_181 : sz Tryd.prog 181 = some 3 := by kernel_rfl
@[simp] theorem bytes_181 : bytes Tryd.prog 181 = some 48 := by kernel_rfl
@[simp] theorem szz_181 : szz Tryd.prog 181 = some 3 := by kernel_rfl
@[simp] theorem isAg_181 : isAg Tryd.prog 181 = some true := by kernel_rfl
@[simp] theorem zeroC_181 : zeroC Tryd.prog 181 = some [.v (.str []), .v (.str []), .v .any] := by kernel_rfl
@[simp] theorem fieldsOk_181 : fieldsOk Tryd.prog 181 = true := by kernel_rfl
@[simp] theorem fo_181_0 : fo Tryd.prog 181 0 = some 0 := by kernel_rfl
@[simp] theorem fsz_181_0 : fsz Tryd.prog 181 0 = some 1 := by kernel_rfl
@[simp] theorem fo_181_1 : fo Tryd.prog 181 1 = some 1 := by kernel_rfl
@[simp] theorem fsz_181_1 : fsz Tryd.prog 181 1 = some 1 := by kernel_rfl
@[simp] theorem fo_181_2 : fo Tryd.prog 181 2 = some 2 := by kernel_rfl
@[simp] theorem fsz_181_2 : fsz Tryd.prog 181 2 = some 1 := by kernel_rfl
@[simp] theorem sz_182 : sz Tryd.prog 182 = some 1 := by kernel_rfl
@[simp] theorem bytes_182 : bytes Tryd.prog 182 = some 8 := by kernel_rfl
@[simp] theorem szz_182 : szz Tryd.prog 182 = some 1 := by kernel_rfl
@[simp] theorem isAg_182 : isAg Tryd.prog 182 = some false := by kernel_rfl
@[simp] theorem zeroC_182 : zeroC Tryd.prog 182 = some [.v .any] := by kernel_rfl
@[simp] theorem sz_184 : sz Tryd.prog 184 = some 1 := by kernel_rfl
@[simp] theorem bytes_184 : bytes Tryd.prog 184 = some 8 := by kernel_rfl
@[simp] theorem szz_184 : szz Tryd.prog 184 = some 1 := by kernel_rfl
@[simp] theorem isAg_184 : isAg Tryd.prog 184 = some false := by kernel_rfl
@[simp] theorem zeroC_184 : zeroC Tryd.prog 184 = some [.v .any] := by kernel_rfl
@[simp] theorem sz_185 : sz Tryd.prog 185 = some 1 := by kernel_rfl
@[simp] theorem bytes_185 : bytes Tryd.prog 185 = some 8 := by kernel_rfl
@[simp] theorem szz_185 : szz Tryd.prog 185 = some 1 := by kernel_rfl
@[simp] theorem isAg_185 : isAg Tryd.prog 185 = some false := by kernel_rfl
@[simp] theorem zeroC_185 : zeroC Tryd.prog 185 = some [.v .any] := by kernel_rfl
@[simp] theorem sz_187 : sz Tryd.prog 187 = some 1 := by kernel_rfl
@[simp] theorem bytes_187 : bytes Tryd.prog 187 = some 4 := by kernel_rfl
@[simp] theorem szz_187 : szz Tryd.prog 187 = some 1 := by kernel_rfl
@[simp] theorem isAg_187 : isAg Tryd.prog 187 = some false := by kernel_rfl
@[simp] theorem intK_187 : intK Tryd.prog 187 = some .u32 := by kernel_rfl
@[simp] theorem zeroC_187 : zeroC Tryd.prog 187 = some [.v (.int .u32 0)] := by kernel_rfl
@[simp] theorem sz_189 : sz Tryd.prog 189 = some 1 := by kernel_rfl
@[simp] theorem bytes_189 : bytes Tryd.prog 189 = some 8 := by kernel_rfl
@[simp] theorem szz_189 : szz Tryd.prog 189 = some 1 := by kernel_rfl
@[simp] theorem isAg_189 : isAg Tryd.prog 189 = some false := by kernel_rfl
@[simp] theorem zeroC_189 : zeroC Tryd.prog 189 = some [.v .any] := by kernel_rfl
@[simp] theorem sz_191 : sz Tryd.prog 191 = some 1 := by kernel_rfl
@[simp] theorem bytes_191 : bytes Tryd.prog 191 = some 8 := by kernel_rfl
@[simp] theorem szz_191 : szz Tryd.prog 191 = some 1 := by kernel_rfl
@[simp] theorem isAg_191 : isAg Tryd.prog 191 = some false := by kernel_rfl
@[simp] theorem zeroC_191 : zeroC Tryd.prog 191 = some [.v .any] := by kernel_rfl
@[simp] theorem sz_192 : sz Tryd.prog 192 = some 1 := by kernel_rfl
@[simp] theorem bytes_192 : bytes Tryd.prog 192 = some 8 := by kernel_rfl
@[simp] theorem szz_192 : szz Tryd.prog 192 = some 1 := by kernel_rfl
@[simp] theorem isAg_192 : isAg Tryd.prog 192 = some false := by kernel_rfl
@[simp] theorem zeroC_192 : zeroC Tryd.prog 192 = some [.v .any] := by kernel_rfl
@[simp] theorem sz_193 : sz Tryd.prog 193 = some 1 := by kernel_rfl
@[simp] theorem bytes_193 : bytes Tryd.prog 193 = some 8 := by kernel_rfl
@[simp] theorem szz_193 : szz Tryd.prog 193 = some 1 := by kernel_rfl
@[simp] theorem isAg_193 : isAg Tryd.prog 193 = some false := by kernel_rfl
@[simp] theorem zeroC_193 : zeroC Tryd.prog 193 = some [.v .any] := by kernel_rfl
@[simp] theorem sz_194 : sz Tryd.prog 194 = some 1 := by kernel_rfl
@[simp] theorem bytes_194 : bytes Tryd.prog 194 = some 16 := by kernel_rfl
@[simp] theorem szz_194 : szz Tryd.prog 194 = some 1 := by kernel_rfl
@[simp] theorem isAg_194 : isAg Tryd.prog 194 = some true := by kernel_rfl
@[simp] theorem zeroC_194 : zeroC Tryd.prog 194 = some [.v (.str [])] := by kernel_rfl
@[simp] theorem fieldsOk_194 : fieldsOk Tryd.prog 194 = true := by kernel_rfl
@[simp] theorem eqKinds_194 : eqKinds Tryd.prog 194 = some [2] := by kernel_rfl
@[simp] theorem fo_194_0 : fo Tryd.prog 194 0 = some 0 := by kernel_rfl
@[simp] theorem fsz_194_0 : fsz Tryd.prog 194 0 = some 1 := by kernel_rfl
@[simp] theorem sz_195 : sz Tryd.prog 195 = some 1 := by kernel_rfl
@[simp] theorem bytes_195 : bytes Tryd.prog 195 = some 16 := by kernel_rfl
@[simp] theorem szz_195 : szz Tryd.prog 195 = some 1 := by kernel_rfl
@[simp] theorem isAg_195 : isAg Tryd.prog 195 = some true := by kernel_rfl
@[simp] theorem zeroC_195 : zeroC Tryd.prog 195 = some [.v (.str [])] := by kernel_rfl
@[simp] theorem fieldsOk_195 : fieldsOk Tryd.prog 195 = true := by kernel_rfl
@[simp] theorem eqKinds_195 : eqKinds Tryd.prog 195 = some [2] := by kernel_rfl
@[simp] theorem fo_195_0 : fo Tryd.prog 195 0 = some 0 := by kernel_rfl
@[simp] theorem fsz_195_0 : fsz Tryd.prog 195 0 = some 1 := by kernel_rfl
@[simp] theorem sz_196 : sz Tryd.prog 196 = some 1 := by kernel_rfl
@[simp] theorem bytes_196 : bytes Tryd.prog 196 = some 8 := by kernel_rfl
@[simp] theorem szz_196 : szz Tryd.prog 196 = some 1 := by kernel_rfl
@[simp] theorem isAg_196 : isAg Tryd.prog 196 = some false := by kernel_rfl
@[simp] theorem zeroC_196 : zeroC Tryd.prog 196 = some [.v .any] := by kernel_rfl
@[simp] theorem sz_198 : sz Tryd.prog 198 = some 2 := by kernel_rfl
@[simp] theorem bytes_198 : bytes Tryd.prog 198 = some 2 := by kernel_rfl
@[simp] theorem szz_198 : szz Tryd.prog 198 = some 2 := by kernel_rfl
@[simp] theorem isAg_198 : isAg Tryd.prog 198 = some true := by kernel_rfl
@[simp] theorem zeroC_198 : zeroC Tryd.prog 198 = some [.v (.int .u8 0), .v (.int .u8 0)] := by kernel_rfl
@[simp] theorem fieldsOk_198 : fieldsOk Tryd.prog 198 = true := by kernel_rfl
@[simp] theorem eqKinds_198 : eqKinds Tryd.prog 198 = some [1, 1] := by kernel_rfl
@[simp] theorem fo_198_0 : fo Tryd.prog 198 0 = some 0 := by kernel_rfl
@[simp] theorem fsz_198_0 : fsz Tryd.prog 198 0 = some 1 := by kernel_rfl
@[simp] theorem fo_198_1 : fo Tryd.prog 198 1 = some 1 := by kernel_rfl
@[simp] theorem fsz_198_1 : fsz Tryd.prog 198 1 = some 1 := by kernel_rfl
@[simp] theorem sz_199 : sz Tryd.prog 199 = some 2 := by kernel_rfl
@[simp] theorem bytes_199 : bytes Tryd.prog 199 = some 2 := by kernel_rfl
@[simp] theorem szz_199 : szz Tryd.prog 199 = some 2 := by kernel_rfl
@[simp] theorem isAg_199 : isAg Tryd.prog 199 = some true := by kernel_rfl
@[simp] theorem zeroC_199 : zeroC Tryd.prog 199 = some [.v (.int .u8 0), .v (.int .u8 0)] := by kernel_rfl
@[simp] theorem fieldsOk_199 : fieldsOk Tryd.prog 199 = true := by kernel_rfl
@[simp] theorem eqKinds_199 : eqKinds Tryd.prog 199 = some [1, 1] := by kernel_rfl
@[simp] theorem fo_199_0 : fo Tryd.prog 199 0 = some 0 := by kernel_rfl
@[simp] theorem fsz_199_0 : fsz Tryd.prog 199 0 = some 1 := by kernel_rfl
@[simp] theorem fo_199_1 : fo Tryd.prog 199 1 = some 1 := by kernel_rfl
@[simp] theorem fsz_199_1 : fsz Tryd.prog 199 1 = some 1 := by kernel_rfl
@[simp] theorem sz_201 : sz Tryd.prog 201 = some 1 := by kernel_rfl
@[simp] theorem bytes_201 : bytes Tryd.prog 201 = some 8 := by kernel_rfl
@[simp] theorem szz_201 : szz Tryd.prog 201 = some 1 := by kernel_rfl
@[simp] theorem isAg_201 : isAg Tryd.prog 201 = some false := by kernel_rfl
@[simp] theorem zeroC_201 : zeroC Tryd.prog 201 = some [.v .any] := by kernel_rfl
@[simp] theorem sz_209 : sz Tryd.prog 209 = some 1 := by kernel_rfl
@[simp] theorem bytes_209 : bytes Tryd.prog 209 = some 8 := by kernel_rfl
@[simp] theorem szz_209 : szz Tryd.prog 209 = some 1 := by kernel_rfl
@[simp] theorem isAg_209 : isAg Tryd.prog 209 = some false := by kernel_rfl
@[simp] theorem zeroC_209 : zeroC Tryd.prog 209 = some [.v .any] := by kernel_rfl
@[simp] theorem sz_212 : sz Tryd.prog 212 = some 1 := by kernel_rfl
@[simp] theorem bytes_212 : bytes Tryd.prog 212 = some 8 := by kernel_rfl
@[simp] theorem szz_212 : szz Tryd.prog 212 = some 1 := by kernel_rfl
@[simp] theorem isAg_212 : isAg Tryd.prog 212 = some false := by kernel_rfl
@[simp] theorem zeroC_212 : zeroC Tryd.prog 212 = some [.v .any] := by kernel_rfl
end TL
