/- Facts about the types of this seat. -/
import Derived.Test.YtcoapdapigpfgaaTlCut
import Derived.Test.YtcoapdapigpfgaaChecked
namespace TL
open Go Go.Proofs
@[simp] theorem sz_1 : sz Try.prog 1 = some 1 := by kernel_rfl
@[simp] theorem bytes_1 : bytes Try.prog 1 = some 8 := by kernel_rfl
@[simp] theorem szz_1 : szz Try.prog 1 = some 1 := by kernel_rfl
@[simp] theorem isAg_1 : isAg Try.prog 1 = some false := by kernel_rfl
@[simp] theorem zeroC_1 : zeroC Try.prog 1 = some [.v .any] := by kernel_rfl
@[simp] theorem sz_2 : sz Try.prog 2 = some 1 := by kernel_rfl
@[simp] theorem bytes_2 : bytes Try.prog 2 = some 8 := by kernel_rfl
@[simp] theorem szz_2 : szz Try.prog 2 = some 1 := by kernel_rfl
@[simp] theorem isAg_2 : isAg Try.prog 2 = some false := by kernel_rfl
@[simp] theorem intK_2 : intK Try.prog 2 = some .i64 := by kernel_rfl
@[simp] theorem zeroC_2 : zeroC Try.prog 2 = some [.v (.int .i64 0)] := by kernel_rfl
@[simp] theorem sz_3 : sz Try.prog 3 = some 1 := by kernel_rfl
@[simp] theorem bytes_3 : bytes Try.prog 3 = some 8 := by kernel_rfl
@[simp] theorem szz_3 : szz Try.prog 3 = some 1 := by kernel_rfl
@[simp] theorem isAg_3 : isAg Try.prog 3 = some false := by kernel_rfl
@[simp] theorem intK_3 : intK Try.prog 3 = some .i64 := by kernel_rfl
@[simp] theorem zeroC_3 : zeroC Try.prog 3 = some [.v (.int .i64 0)] := by kernel_rfl
@[simp] theorem sz_4 : sz Try.prog 4 = some 1 := by kernel_rfl
@[simp] theorem bytes_4 : bytes Try.prog 4 = some 1 := by kernel_rfl
@[simp] theorem szz_4 : szz Try.prog 4 = some 1 := by kernel_rfl
@[simp] theorem isAg_4 : isAg Try.prog 4 = some false := by kernel_rfl
@[simp] theorem isBool_4 : isBool Try.prog 4 = some true := by kernel_rfl
@[simp] theorem zeroC_4 : zeroC Try.prog 4 = some [.v (.bool false)] := by kernel_rfl
@[simp] theorem sz_5 : sz Try.prog 5 = some 1 := by kernel_rfl
@[simp] theorem bytes_5 : bytes Try.prog 5 = some 1 := by kernel_rfl
@[simp] theorem szz_5 : szz Try.prog 5 = some 1 := by kernel_rfl
@[simp] theorem isAg_5 : isAg Try.prog 5 = some false := by kernel_rfl
@[simp] theorem intK_5 : intK Try.prog 5 = some .u8 := by kernel_rfl
@[simp] theorem zeroC_5 : zeroC Try.prog 5 = some [.v (.int .u8 0)] := by kernel_rfl
@[simp] theorem sz_9 : sz Try.prog 9 = some 1 := by kernel_rfl
@[simp] theorem bytes_9 : bytes Try.prog 9 = some 16 := by kernel_rfl
@[simp] theorem szz_9 : szz Try.prog 9 = some 1 := by kernel_rfl
@[simp] theorem isAg_9 : isAg Try.prog 9 = some false := by kernel_rfl
@[simp] theorem isStr_9 : isStr Try.prog 9 = some true := by kernel_rfl
@[simp] theorem zeroC_9 : zeroC Try.prog 9 = some [.v (.str [])] := by kernel_rfl
@[simp] theorem sz_12 : sz Try.prog 12 = some 1 := by kernel_rfl
@[simp] theorem bytes_12 : bytes Try.prog 12 = some 8 := by kernel_rfl
@[simp] theorem szz_12 : szz Try.prog 12 = some 1 := by kernel_rfl
@[simp] theorem isAg_12 : isAg Try.prog 12 = some false := by kernel_rfl
@[simp] theorem intK_12 : intK Try.prog 12 = some .u64 := by kernel_rfl
@[simp] theorem zeroC_12 : zeroC Try.prog 12 = some [.v (.int .u64 0)] := by kernel_rfl
@[simp] theorem sz_21 : sz Try.prog 21 = some 1 := by kernel_rfl
@[simp] theorem bytes_21 : bytes Try.prog 21 = some 4 := by kernel_rfl
@[simp] theorem szz_21 : szz Try.prog 21 = some 1 := by kernel_rfl
@[simp] theorem isAg_21 : isAg Try.prog 21 = some false := by kernel_rfl
@[simp] theorem intK_21 : intK Try.prog 21 = some .i32 := by kernel_rfl
@[simp] theorem zeroC_21 : zeroC Try.prog 21 = some [.v (.int .i32 0)] := by kernel_rfl
@[simp] theorem sz_22 : sz Try.prog 22 = some 1 := by kernel_rfl
@[simp] theorem bytes_22 : bytes Try.prog 22 = some 24 := by kernel_rfl
@[simp] theorem szz_22 : szz Try.prog 22 = some 1 := by kernel_rfl
@[simp] theorem isAg_22 : isAg Try.prog 22 = some false := by kernel_rfl
@[simp] theorem elT_22 : elT Try.prog 22 = some 5 := by kernel_rfl
@[simp] theorem isStr_22 : isStr Try.prog 22 = some false := by kernel_rfl
@[simp] theorem zeroC_22 : zeroC Try.prog 22 = some [.nil] := by kernel_rfl
@[simp] theorem sz_23 : sz Try.prog 23 = some 1 := by kernel_rfl
@[simp] theorem bytes_23 : bytes Try.prog 23 = some 24 := by kernel_rfl
@[simp] theorem szz_23 : szz Try.prog 23 = some 1 := by kernel_rfl
@[simp] theorem isAg_23 : isAg Try.prog 23 = some false := by kernel_rfl
@[simp] theorem elT_23 : elT Try.prog 23 = some 67 := by kernel_rfl
@[simp] theorem isStr_23 : isStr Try.prog 23 = some false := by kernel_rfl
@[simp] theorem zeroC_23 : zeroC Try.prog 23 = some [.nil] := by kernel_rfl
@[simp] theorem sz_24 : sz Try.prog 24 = some 2 := by kernel_rfl
@[simp] theorem bytes_24 : bytes Try.prog 24 = some 32 := by kernel_rfl
@[simp] theorem szz_24 : szz Try.prog 24 = some 2 := by kernel_rfl
@[simp] theorem isAg_24 : isAg Try.prog 24 = some true := by kernel_rfl
@[simp] theorem zeroC_24 : zeroC Try.prog 24 = some [.v (.int .i64 0), .nil] := by kernel_rfl
@[simp] theorem fieldsOk_24 : fieldsOk Try.prog 24 = true := by kernel_rfl
@[simp] theorem fo_24_0 : fo Try.prog 24 0 = some 0 := by kernel_rfl
@[simp] theorem fsz_24_0 : fsz Try.prog 24 0 = some 1 := by kernel_rfl
@[simp] theorem fo_24_1 : fo Try.prog 24 1 = some 1 := by kernel_rfl
@[simp] theorem fsz_24_1 : fsz Try.prog 24 1 = some 1 := by kernel_rfl
@[simp] theorem sz_25 : sz Try.prog 25 = some 2 := by kernel_rfl
@[simp] theorem bytes_25 : bytes Try.prog 25 = some 32 := by kernel_rfl
@[simp] theorem szz_25 : szz Try.prog 25 = some 2 := by kernel_rfl
@[simp] theorem isAg_25 : isAg Try.prog 25 = some true := by kernel_rfl
@[simp] theorem zeroC_25 : zeroC Try.prog 25 = some [.v (.int .i64 0), .nil] := by kernel_rfl
@[simp] theorem fieldsOk_25 : fieldsOk Try.prog 25 = true := by kernel_rfl
@[simp] theorem fo_25_0 : fo Try.prog 25 0 = some 0 := by kernel_rfl
@[simp] theorem fsz_25_0 : fsz Try.prog 25 0 = some 1 := by kernel_rfl
@[simp] theorem fo_25_1 : fo Try.prog 25 1 = some 1 := by kernel_rfl
@[simp] theorem fsz_25_1 : fsz Try.prog 25 1 = some 1 := by kernel_rfl
@[simp] theorem sz_27 : sz Try.prog 27 = some 1 := by kernel_rfl
@[simp] theorem bytes_27 : bytes Try.prog 27 = some 8 := by kernel_rfl
@[simp] theorem szz_27 : szz Try.prog 27 = some 1 := by kernel_rfl
@[simp] theorem isAg_27 : isAg Try.prog 27 = some false := by kernel_rfl
@[simp] theorem zeroC_27 : zeroC Try.prog 27 = some [.v .any] := by kernel_rfl
@[simp] theorem sz_28 : sz Try.prog 28 = some 1 := by kernel_rfl
@[simp] theorem bytes_28 : bytes Try.prog 28 = some 8 := by kernel_rfl
@[simp] theorem szz_28 : szz Try.prog 28 = some 1 := by kernel_rfl
@[simp] theorem isAg_28 : isAg Try.prog 28 = some false := by kernel_rfl
@[simp] theorem zeroC_28 : zeroC Try.prog 28 = some [.v .any] := by kernel_rfl
@[simp] theorem sz_29 : sz Try.prog 29 = some 1 := by kernel_rfl
@[simp] theorem bytes_29 : bytes Try.prog 29 = some 8 := by kernel_rfl
@[simp] theorem szz_29 : szz Try.prog 29 = some 1 := by kernel_rfl
@[simp] theorem isAg_29 : isAg Try.prog 29 = some false := by kernel_rfl
@[simp] theorem zeroC_29 : zeroC Try.prog 29 = some [.v .any] := by kernel_rfl
@[simp] theorem sz_30 : sz Try.prog 30 = some 1 := by kernel_rfl
@[simp] theorem bytes_30 : bytes Try.prog 30 = some 8 := by kernel_rfl
@[simp] theorem szz_30 : szz Try.prog 30 = some 1 := by kernel_rfl
@[simp] theorem isAg_30 : isAg Try.prog 30 = some false := by kernel_rfl
@[simp] theorem zeroC_30 : zeroC Try.prog 30 = some [.v .any] := by kernel_rfl
@[simp] theorem sz_32 : sz Try.prog 32 = some 1 := by kernel_rfl
@[simp] theorem bytes_32 : bytes Try.prog 32 = some 8 := by kernel_rfl
@[simp] theorem szz_32 : szz Try.prog 32 = some 1 := by kernel_rfl
@[simp] theorem isAg_32 : isAg Try.prog 32 = some false := by kernel_rfl
@[simp] theorem zeroC_32 : zeroC Try.prog 32 = some [.v .any] := by kernel_rfl
@[simp] theorem sz_33 : sz Try.prog 33 = some 1 := by kernel_rfl
@[simp] theorem bytes_33 : bytes Try.prog 33 = some 8 := by kernel_rfl
@[simp] theorem szz_33 : szz Try.prog 33 = some 1 := by kernel_rfl
@[simp] theorem isAg_33 : isAg Try.prog 33 = some false := by kernel_rfl
@[simp] theorem zeroC_33 : zeroC Try.prog 33 = some [.v .any] := by kernel_rfl
@[simp] theorem sz_34 : sz Try.prog 34 = some 1 := by kernel_rfl
@[simp] theorem bytes_34 : bytes Try.prog 34 = some 8 := by kernel_rfl
@[simp] theorem szz_34 : szz Try.prog 34 = some 1 := by kernel_rfl
@[simp] theorem isAg_34 : isAg Try.prog 34 = some false := by kernel_rfl
@[simp] theorem zeroC_34 : zeroC Try.prog 34 = some [.v .any] := by kernel_rfl
@[simp] theorem sz_35 : sz Try.prog 35 = some 1 := by kernel_rfl
@[simp] theorem bytes_35 : bytes Try.prog 35 = some 8 := by kernel_rfl
@[simp] theorem szz_35 : szz Try.prog 35 = some 1 := by kernel_rfl
@[simp] theorem isAg_35 : isAg Try.prog 35 = some false := by kernel_rfl
@[simp] theorem zeroC_35 : zeroC Try.prog 35 = some [.v .any] := by kernel_rfl
@[simp] theorem sz_36 : sz Try.prog 36 = some 1 := by kernel_rfl
@[simp] theorem bytes_36 : bytes Try.prog 36 = some 8 := by kernel_rfl
@[simp] theorem szz_36 : szz Try.prog 36 = some 1 := by kernel_rfl
@[simp] theorem isAg_36 : isAg Try.prog 36 = some false := by kernel_rfl
@[simp] theorem zeroC_36 : zeroC Try.prog 36 = some [.v .any] := by kernel_rfl
@[simp] theorem sz_38 : sz Try.prog 38 = some 1 := by kernel_rfl
@[simp] theorem bytes_38 : bytes Try.prog 38 = some 8 := by kernel_rfl
@[simp] theorem szz_38 : szz Try.prog 38 = some 1 := by kernel_rfl
@[simp] theorem isAg_38 : isAg Try.prog 38 = some false := by kernel_rfl
@[simp] theorem zeroC_38 : zeroC Try.prog 38 = some [.v .any] := by kernel_rfl
@[simp] theorem sz_39 : sz Try.prog 39 = some 1 := by kernel_rfl
@[simp] theorem bytes_39 : bytes Try.prog 39 = some 24 := by kernel_rfl
@[simp] theorem szz_39 : szz Try.prog 39 = some 1 := by kernel_rfl
@[simp] theorem isAg_39 : isAg Try.prog 39 = some false := by kernel_rfl
@[simp] theorem elT_39 : elT Try.prog 39 = some 25 := by kernel_rfl
@[simp] theorem isStr_39 : isStr Try.prog 39 = some false := by kernel_rfl
@[simp] theorem zeroC_39 : zeroC Try.prog 39 = some [.nil] := by kernel_rfl
@[simp] theorem sz_40 : sz Try.prog 40 = some 2 := by kernel_rfl
@[simp] theorem bytes_40 : bytes Try.prog 40 = some 32 := by kernel_rfl
@[simp] theorem szz_40 : szz Try.prog 40 = some 2 := by kernel_rfl
@[simp] theorem isAg_40 : isAg Try.prog 40 = some true := by kernel_rfl
@[simp] theorem zeroC_40 : zeroC Try.prog 40 = some [.v (.int .i64 0), .nil] := by kernel_rfl
@[simp] theorem fieldsOk_40 : fieldsOk Try.prog 40 = true := by kernel_rfl
@[simp] theorem fo_40_0 : fo Try.prog 40 0 = some 0 := by kernel_rfl
@[simp] theorem fsz_40_0 : fsz Try.prog 40 0 = some 1 := by kernel_rfl
@[simp] theorem fo_40_1 : fo Try.prog 40 1 = some 1 := by kernel_rfl
@[simp] theorem fsz_40_1 : fsz Try.prog 40 1 = some 1 := by kernel_rfl
@[simp] theorem sz_41 : sz Try.prog 41 = some 2 := by kernel_rfl
@[simp] theorem bytes_41 : bytes Try.prog 41 = some 32 := by kernel_rfl
@[simp] theorem szz_41 : szz Try.prog 41 = some 2 := by kernel_rfl
@[simp] theorem isAg_41 : isAg Try.prog 41 = some true := by kernel_rfl
@[simp] theorem zeroC_41 : zeroC Try.prog 41 = some [.v (.int .i64 0), .nil] := by kernel_rfl
@[simp] theorem fieldsOk_41 : fieldsOk Try.prog 41 = true := by kernel_rfl
@[simp] theorem fo_41_0 : fo Try.prog 41 0 = some 0 := by kernel_rfl
@[simp] theorem fsz_41_0 : fsz Try.prog 41 0 = some 1 := by kernel_rfl
@[simp] theorem fo_41_1 : fo Try.prog 41 1 = some 1 := by kernel_rfl
@[simp] theorem fsz_41_1 : fsz Try.prog 41 1 = some 1 := by kernel_rfl
@[simp] theorem sz_42 : sz Try.prog 42 = some 1 := by kernel_rfl
@[simp] theorem bytes_42 : bytes Try.prog 42 = some 24 := by kernel_rfl
@[simp] theorem szz_42 : szz Try.prog 42 = some 1 := by kernel_rfl
@[simp] theorem isAg_42 : isAg Try.prog 42 = some false := by kernel_rfl
@[simp] theorem elT_42 : elT Try.prog 42 = some 41 := by kernel_rfl
@[simp] theorem isStr_42 : isStr Try.prog 42 = some false := by kernel_rfl
@[simp] theorem zeroC_42 : zeroC Try.prog 42 = some [.nil] := by kernel_rfl
@[simp] theorem sz_43 : sz Try.prog 43 = some 3 := by kernel_rfl
@[simp] theorem bytes_43 : bytes Try.prog 43 = some 56 := by kernel_rfl
@[simp] theorem szz_43 : szz Try.prog 43 = some 3 := by kernel_rfl
@[simp] theorem isAg_43 : isAg Try.prog 43 = some true := by kernel_rfl
@[simp] theorem zeroC_43 : zeroC Try.prog 43 = some [.v (.int .i64 0), .nil, .nil] := by kernel_rfl
@[simp] theorem fieldsOk_43 : fieldsOk Try.prog 43 = true := by kernel_rfl
@[simp] theorem fo_43_0 : fo Try.prog 43 0 = some 0 := by kernel_rfl
@[simp] theorem fsz_43_0 : fsz Try.prog 43 0 = some 2 := by kernel_rfl
@[simp] theorem fo_43_1 : fo Try.prog 43 1 = some 2 := by kernel_rfl
@[simp] theorem fsz_43_1 : fsz Try.prog 43 1 = some 1 := by kernel_rfl
@[simp] theorem sz_44 : sz Try.prog 44 = some 3 := by kernel_rfl
@[simp] theorem bytes_44 : bytes Try.prog 44 = some 56 := by kernel_rfl
@[simp] theorem szz_44 : szz Try.prog 44 = some 3 := by kernel_rfl
@[simp] theorem isAg_44 : isAg Try.prog 44 = some true := by kernel_rfl
@[simp] theorem zeroC_44 : zeroC Try.prog 44 = some [.v (.int .i64 0), .nil, .nil] := by kernel_rfl
@[simp] theorem fieldsOk_44 : fieldsOk Try.prog 44 = true := by kernel_rfl
@[simp] theorem fo_44_0 : fo Try.prog 44 0 = some 0 := by kernel_rfl
@[simp] theorem fsz_44_0 : fsz Try.prog 44 0 = some 2 := by kernel_rfl
@[simp] theorem fo_44_1 : fo Try.prog 44 1 = some 2 := by kernel_rfl
@[simp] theorem fsz_44_1 : fsz Try.prog 44 1 = some 1 := by kernel_rfl
@[simp] theorem sz_45 : sz Try.prog 45 = some 1 := by kernel_rfl
@[simp] theorem bytes_45 : bytes Try.prog 45 = some 8 := by kernel_rfl
@[simp] theorem szz_45 : szz Try.prog 45 = some 1 := by kernel_rfl
@[simp] theorem isAg_45 : isAg Try.prog 45 = some false := by kernel_rfl
@[simp] theorem zeroC_45 : zeroC Try.prog 45 = some [.v .any] := by kernel_rfl
@[simp] theorem sz_46 : sz Try.prog 46 = some 1 := by kernel_rfl
@[simp] theorem bytes_46 : bytes Try.prog 46 = some 8 := by kernel_rfl
@[simp] theorem szz_46 : szz Try.prog 46 = some 1 := by kernel_rfl
@[simp] theorem isAg_46 : isAg Try.prog 46 = some false := by kernel_rfl
@[simp] theorem zeroC_46 : zeroC Try.prog 46 = some [.v .any] := by kernel_rfl
@[simp] theorem sz_47 : sz Try.prog 47 = some 1 := by kernel_rfl
@[simp] theorem bytes_47 : bytes Try.prog 47 = some 8 := by kernel_rfl
@[simp] theorem szz_47 : szz Try.prog 47 = some 1 := by kernel_rfl
@[simp] theorem isAg_47 : isAg Try.prog 47 = some false := by kernel_rfl
@[simp] theorem zeroC_47 : zeroC Try.prog 47 = some [.v .any] := by kernel_rfl
@[simp] theorem sz_48 : sz Try.prog 48 = some 1 := by kernel_rfl
@[simp] theorem bytes_48 : bytes Try.prog 48 = some 8 := by kernel_rfl
@[simp] theorem szz_48 : szz Try.prog 48 = some 1 := by kernel_rfl
@[simp] theorem isAg_48 : isAg Try.prog 48 = some false := by kernel_rfl
@[simp] theorem zeroC_48 : zeroC Try.prog 48 = some [.v .any] := by kernel_rfl
@[simp] theorem sz_49 : sz Try.prog 49 = some 1 := by kernel_rfl
@[simp] theorem bytes_49 : bytes Try.prog 49 = some 8 := by kernel_rfl
@[simp] theorem szz_49 : szz Try.prog 49 = some 1 := by kernel_rfl
@[simp] theorem isAg_49 : isAg Try.prog 49 = some false := by kernel_rfl
@[simp] theorem zeroC_49 : zeroC Try.prog 49 = some [.v .any] := by kernel_rfl
@[simp] theorem sz_50 : sz Try.prog 50 = some 1 := by kernel_rfl
@[simp] theorem bytes_50 : bytes Try.prog 50 = some 8 := by kernel_rfl
@[simp] theorem szz_50 : szz Try.prog 50 = some 1 := by kernel_rfl
@[simp] theorem isAg_50 : isAg Try.prog 50 = some false := by kernel_rfl
@[simp] theorem zeroC_50 : zeroC Try.prog 50 = some [.v .any] := by kernel_rfl
@[simp] theorem sz_51 : sz Try.prog 51 = some 1 := by kernel_rfl
@[simp] theorem bytes_51 : bytes Try.prog 51 = some 8 := by kernel_rfl
@[simp] theorem szz_51 : szz Try.prog 51 = some 1 := by kernel_rfl
@[simp] theorem isAg_51 : isAg Try.prog 51 = some false := by kernel_rfl
@[simp] theorem zeroC_51 : zeroC Try.prog 51 = some [.v .any] := by kernel_rfl
@[simp] theorem sz_52 : sz Try.prog 52 = some 1 := by kernel_rfl
@[simp] theorem bytes_52 : bytes Try.prog 52 = some 8 := by kernel_rfl
@[simp] theorem szz_52 : szz Try.prog 52 = some 1 := by kernel_rfl
@[simp] theorem isAg_52 : isAg Try.prog 52 = some false := by kernel_rfl
@[simp] theorem zeroC_52 : zeroC Try.prog 52 = some [.v .any] := by kernel_rfl
@[simp] theorem sz_53 : sz Try.prog 53 = some 1 := by kernel_rfl
@[simp] theorem bytes_53 : bytes Try.prog 53 = some 8 := by kernel_rfl
@[simp] theorem szz_53 : szz Try.prog 53 = some 1 := by kernel_rfl
@[simp] theorem isAg_53 : isAg Try.prog 53 = some false := by kernel_rfl
@[simp] theorem zeroC_53 : zeroC Try.prog 53 = some [.v .any] := by kernel_rfl
@[simp] theorem sz_55 : sz Try.prog 55 = some 1 := by kernel_rfl
@[simp] theorem bytes_55 : bytes Try.prog 55 = some 8 := by kernel_rfl
@[simp] theorem szz_55 : szz Try.prog 55 = some 1 := by kernel_rfl
@[simp] theorem isAg_55 : isAg Try.prog 55 = some false := by kernel_rfl
@[simp] theorem zeroC_55 : zeroC Try.prog 55 = some [.v .any] := by kernel_rfl
@[simp] theorem sz_56 : sz Try.prog 56 = some 1 := by kernel_rfl
@[simp] theorem bytes_56 : bytes Try.prog 56 = some 8 := by kernel_rfl
@[simp] theorem szz_56 : szz Try.prog 56 = some 1 := by kernel_rfl
@[simp] theorem isAg_56 : isAg Try.prog 56 = some false := by kernel_rfl
@[simp] theorem zeroC_56 : zeroC Try.prog 56 = some [.v .any] := by kernel_rfl
@[simp] theorem sz_57 : sz Try.prog 57 = some 1 := by kernel_rfl
@[simp] theorem bytes_57 : bytes Try.prog 57 = some 8 := by kernel_rfl
@[simp] theorem szz_57 : szz Try.prog 57 = some 1 := by kernel_rfl
@[simp] theorem isAg_57 : isAg Try.prog 57 = some false := by kernel_rfl
@[simp] theorem zeroC_57 : zeroC Try.prog 57 = some [.v .any] := by kernel_rfl
@[simp] theorem sz_58 : sz Try.prog 58 = some 1 := by kernel_rfl
@[simp] theorem bytes_58 : bytes Try.prog 58 = some 8 := by kernel_rfl
@[simp] theorem szz_58 : szz Try.prog 58 = some 1 := by kernel_rfl
@[simp] theorem isAg_58 : isAg Try.prog 58 = some false := by kernel_rfl
@[simp] theorem zeroC_58 : zeroC Try.prog 58 = some [.v .any] := by kernel_rfl
@[simp] theorem sz_59 : sz Try.prog 59 = some 1 := by kernel_rfl
@[simp] theorem bytes_59 : bytes Try.prog 59 = some 8 := by kernel_rfl
@[simp] theorem szz_59 : szz Try.prog 59 = some 1 := by kernel_rfl
@[simp] theorem isAg_59 : isAg Try.prog 59 = some false := by kernel_rfl
@[simp] theorem zeroC_59 : zeroC Try.prog 59 = some [.v .any] := by kernel_rfl
@[simp] theorem sz_60 : sz Try.prog 60 = some 1 := by kernel_rfl
@[simp] theorem bytes_60 : bytes Try.prog 60 = some 24 := by kernel_rfl
@[simp] theorem szz_60 : szz Try.prog 60 = some 1 := by kernel_rfl
@[simp] theorem isAg_60 : isAg Try.prog 60 = some false := by kernel_rfl
@[simp] theorem elT_60 : elT Try.prog 60 = some 9 := by kernel_rfl
@[simp] theorem isStr_60 : isStr Try.prog 60 = some false := by kernel_rfl
@[simp] theorem zeroC_60 : zeroC Try.prog 60 = some [.nil] := by kernel_rfl
@[simp] theorem sz_61 : sz Try.prog 61 = some 1 := by kernel_rfl
@[simp] theorem bytes_61 : bytes Try.prog 61 = some 8 := by kernel_rfl
@[simp] theorem szz_61 : szz Try.prog 61 = some 1 := by kernel_rfl
@[simp] theorem isAg_61 : isAg Try.prog 61 = some false := by kernel_rfl
@[simp] theorem zeroC_61 : zeroC Try.prog 61 = some [.v .any] := by kernel_rfl
@[simp] theorem sz_62 : sz Try.prog 62 = some 1 := by kernel_rfl
@[simp] theorem bytes_62 : bytes Try.prog 62 = some 8 := by kernel_rfl
@[simp] theorem szz_62 : szz Try.prog 62 = some 1 := by kernel_rfl
@[simp] theorem isAg_62 : isAg Try.prog 62 = some false := by kernel_rfl
@[simp] theorem zeroC_62 : zeroC Try.prog 62 = some [.v .any] := by kernel_rfl
@[simp] theorem sz_63 : sz Try.prog 63 = some 1 := by kernel_rfl
@[simp] theorem bytes_63 : bytes Try.prog 63 = some 8 := by kernel_rfl
@[simp] theorem szz_63 : szz Try.prog 63 = some 1 := by kernel_rfl
@[simp] theorem isAg_63 : isAg Try.prog 63 = some false := by kernel_rfl
@[simp] theorem zeroC_63 : zeroC Try.prog 63 = some [.v .any] := by kernel_rfl
@[simp] theorem sz_64 : sz Try.prog 64 = some 2 := by kernel_rfl
@[simp] theorem bytes_64 : bytes Try.prog 64 = some 32 := by kernel_rfl
@[simp] theorem szz_64 : szz Try.prog 64 = some 2 := by kernel_rfl
@[simp] theorem isAg_64 : isAg Try.prog 64 = some true := by kernel_rfl
@[simp] theorem zeroC_64 : zeroC Try.prog 64 = some [.nil, .v (.int .i64 0)] := by kernel_rfl
@[simp] theorem fieldsOk_64 : fieldsOk Try.prog 64 = true := by kernel_rfl
@[simp] theorem fo_64_0 : fo Try.prog 64 0 = some 0 := by kernel_rfl
@[simp] theorem fsz_64_0 : fsz Try.prog 64 0 = some 1 := by kernel_rfl
@[simp] theorem fo_64_1 : fo Try.prog 64 1 = some 1 := by kernel_rfl
@[simp] theorem fsz_64_1 : fsz Try.prog 64 1 = some 1 := by kernel_rfl
@[simp] theorem sz_65 : sz Try.prog 65 = some 2 := by kernel_rfl
@[simp] theorem bytes_65 : bytes Try.prog 65 = some 32 := by kernel_rfl
@[simp] theorem szz_65 : szz Try.prog 65 = some 2 := by kernel_rfl
@[simp] theorem isAg_65 : isAg Try.prog 65 = some true := by kernel_rfl
@[simp] theorem zeroC_65 : zeroC Try.prog 65 = some [.nil, .v (.int .i64 0)] := by kernel_rfl
@[simp] theorem fieldsOk_65 : fieldsOk Try.prog 65 = true := by kernel_rfl
@[simp] theorem fo_65_0 : fo Try.prog 65 0 = some 0 := by kernel_rfl
@[simp] theorem fsz_65_0 : fsz Try.prog 65 0 = some 1 := by kernel_rfl
@[simp] theorem fo_65_1 : fo Try.prog 65 1 = some 1 := by kernel_rfl
@[simp] theorem fsz_65_1 : fsz Try.prog 65 1 = some 1 := by kernel_rfl
@[simp] theorem sz_66 : sz Try.prog 66 = some 2 := by kernel_rfl
@[simp] theorem bytes_66 : bytes Try.prog 66 = some 16 := by kernel_rfl
@[simp] theorem szz_66 : szz Try.prog 66 = some 2 := by kernel_rfl
@[simp] theorem isAg_66 : isAg Try.prog 66 = some true := by kernel_rfl
@[simp] theorem zeroC_66 : zeroC Try.prog 66 = some [.v (.int .i64 0), .v (.int .i64 0)] := by kernel_rfl
@[simp] theorem fieldsOk_66 : fieldsOk Try.prog 66 = true := by kernel_rfl
@[simp] theorem eqKinds_66 : eqKinds Try.prog 66 = some [1, 1] := by kernel_rfl
@[simp] theorem fo_66_0 : fo Try.prog 66 0 = some 0 := by kernel_rfl
@[simp] theorem fsz_66_0 : fsz Try.prog 66 0 = some 1 := by kernel_rfl
@[simp] theorem fo_66_1 : fo Try.prog 66 1 = some 1 := by kernel_rfl
@[simp] theorem fsz_66_1 : fsz Try.prog 66 1 = some 1 := by kernel_rfl
@[simp] theorem sz_67 : sz Try.prog 67 = some 2 := by kernel_rfl
@[simp] theorem bytes_67 : bytes Try.prog 67 = some 16 := by kernel_rfl
@[simp] theorem szz_67 : szz Try.prog 67 = some 2 := by kernel_rfl
@[simp] theorem isAg_67 : isAg Try.prog 67 = some true := by kernel_rfl
@[simp] theorem zeroC_67 : zeroC Try.prog 67 = some [.v (.int .i64 0), .v (.int .i64 0)] := by kernel_rfl
@[simp] theorem fieldsOk_67 : fieldsOk Try.prog 67 = true := by kernel_rfl
@[simp] theorem eqKinds_67 : eqKinds Try.prog 67 = some [1, 1] := by kernel_rfl
@[simp] theorem fo_67_0 : fo Try.prog 67 0 = some 0 := by kernel_rfl
@[simp] theorem fsz_67_0 : fsz Try.prog 67 0 = some 1 := by kernel_rfl
@[simp] theorem fo_67_1 : fo Try.prog 67 1 = some 1 := by kernel_rfl
@[simp] theorem fsz_67_1 : fsz Try.prog 67 1 = some 1 := by kernel_rfl
@[simp] theorem sz_68 : sz Try.prog 68 = some 1 := by kernel_rfl
@[simp] theorem bytes_68 : bytes Try.prog 68 = some 8 := by kernel_rfl
@[simp] theorem szz_68 : szz Try.prog 68 = some 1 := by kernel_rfl
@[simp] theorem isAg_68 : isAg Try.prog 68 = some false := by kernel_rfl
@[simp] theorem zeroC_68 : zeroC Try.prog 68 = some [.v .any] := by kernel_rfl
@[simp] theorem sz_69 : sz Try.prog 69 = some 1 := by kernel_rfl
@[simp] theorem bytes_69 : bytes Try.prog 69 = some 8 := by kernel_rfl
@[simp] theorem szz_69 : szz Try.prog 69 = some 1 := by kernel_rfl
@[simp] theorem isAg_69 : isAg Try.prog 69 = some false := by kernel_rfl
@[simp] theorem zeroC_69 : zeroC Try.prog 69 = some [.v .any] := by kernel_rfl
@[simp] theorem sz_70 : sz Try.prog 70 = some 1 := by kernel_rfl
@[simp] theorem bytes_70 : bytes Try.prog 70 = some 8 := by kernel_rfl
@[simp] theorem szz_70 : szz Try.prog 70 = some 1 := by kernel_rfl
@[simp] theorem isAg_70 : isAg Try.prog 70 = some false := by kernel_rfl
@[simp] theorem zeroC_70 : zeroC Try.prog 70 = some [.v .any] := by kernel_rfl
@[simp] theorem sz_71 : sz Try.prog 71 = some 1 := by kernel_rfl
@[simp] theorem bytes_71 : bytes Try.prog 71 = some 8 := by kernel_rfl
@[simp] theorem szz_71 : szz Try.prog 71 = some 1 := by kernel_rfl
@[simp] theorem isAg_71 : isAg Try.prog 71 = some false := by kernel_rfl
@[simp] theorem zeroC_71 : zeroC Try.prog 71 = some [.v .any] := by kernel_rfl
@[simp] theorem sz_73 : sz Try.prog 73 = some 1 := by kernel_rfl
@[simp] theorem bytes_73 : bytes Try.prog 73 = some 8 := by kernel_rfl
@[simp] theorem szz_73 : szz Try.prog 73 = some 1 := by kernel_rfl
@[simp] theorem isAg_73 : isAg Try.prog 73 = some false := by kernel_rfl
@[simp] theorem zeroC_73 : zeroC Try.prog 73 = some [.v .any] := by kernel_rfl
@[simp] theorem sz_74 : sz Try.prog 74 = some 1 := by kernel_rfl
@[simp] theorem bytes_74 : bytes Try.prog 74 = some 8 := by kernel_rfl
@[simp] theorem szz_74 : szz Try.prog 74 = some 1 := by kernel_rfl
@[simp] theorem isAg_74 : isAg Try.prog 74 = some false := by kernel_rfl
@[simp] theorem zeroC_74 : zeroC Try.prog 74 = some [.v .any] := by kernel_rfl
@[simp] theorem sz_75 : sz Try.prog 75 = some 1 := by kernel_rfl
@[simp] theorem bytes_75 : bytes Try.prog 75 = some 8 := by kernel_rfl
@[simp] theorem szz_75 : szz Try.prog 75 = some 1 := by kernel_rfl
@[simp] theorem isAg_75 : isAg Try.prog 75 = some false := by kernel_rfl
@[simp] theorem zeroC_75 : zeroC Try.prog 75 = some [.v .any] := by kernel_rfl
@[simp] theorem sz_77 : sz Try.prog 77 = some 1 := by kernel_rfl
@[simp] theorem bytes_77 : bytes Try.prog 77 = some 8 := by kernel_rfl
@[simp] theorem szz_77 : szz Try.prog 77 = some 1 := by kernel_rfl
@[simp] theorem isAg_77 : isAg Try.prog 77 = some false := by kernel_rfl
@[simp] theorem zeroC_77 : zeroC Try.prog 77 = some [.v .any] := by kernel_rfl
@[simp] theorem sz_78 : sz Try.prog 78 = some 1 := by kernel_rfl
@[simp] theorem bytes_78 : bytes Try.prog 78 = some 8 := by kernel_rfl
@[simp] theorem szz_78 : szz Try.prog 78 = some 1 := by kernel_rfl
@[simp] theorem isAg_78 : isAg Try.prog 78 = some false := by kernel_rfl
@[simp] theorem zeroC_78 : zeroC Try.prog 78 = some [.v .any] := by kernel_rfl
@[simp] theorem sz_80 : sz Try.prog 80 = some 1 := by kernel_rfl
@[simp] theorem bytes_80 : bytes Try.prog 80 = some 8 := by kernel_rfl
@[simp] theorem szz_80 : szz Try.prog 80 = some 1 := by kernel_rfl
@[simp] theorem isAg_80 : isAg Try.prog 80 = some false := by kernel_rfl
@[simp] theorem zeroC_80 : zeroC Try.prog 80 = some [.v .any] := by kernel_rfl
@[simp] theorem sz_81 : sz Try.prog 81 = some 1 := by kernel_rfl
@[simp] theorem bytes_81 : bytes Try.prog 81 = some 8 := by kernel_rfl
@[simp] theorem szz_81 : szz Try.prog 81 = some 1 := by kernel_rfl
@[simp] theorem isAg_81 : isAg Try.prog 81 = some false := by kernel_rfl
@[simp] theorem zeroC_81 : zeroC Try.prog 81 = some [.v .any] := by kernel_rfl
@[simp] theorem sz_82 : sz Try.prog 82 = some 1 := by kernel_rfl
@[simp] theorem bytes_82 : bytes Try.prog 82 = some 8 := by kernel_rfl
@[simp] theorem szz_82 : szz Try.prog 82 = some 1 := by kernel_rfl
@[simp] theorem isAg_82 : isAg Try.prog 82 = some false := by kernel_rfl
@[simp] theorem zeroC_82 : zeroC Try.prog 82 = some [.v .any] := by kernel_rfl
@[simp] theorem sz_83 : sz Try.prog 83 = some 3 := by kernel_rfl
@[simp] theorem bytes_83 : bytes Try.prog 83 = some 32 := by kernel_rfl
@[simp] theorem szz_83 : szz Try.prog 83 = some 3 := by kernel_rfl
@[simp] theorem isAg_83 : isAg Try.prog 83 = some true := by kernel_rfl
@[simp] theorem zeroC_83 : zeroC Try.prog 83 = some [.v (.int .i64 0), .v (.int .i64 0), .v (.str [])] := by kernel_rfl
@[simp] theorem fieldsOk_83 : fieldsOk Try.prog 83 = true := by kernel_rfl
@[simp] theorem eqKinds_83 : eqKinds Try.prog 83 = some [1, 1, 2] := by kernel_rfl
@[simp] theorem fo_83_0 : fo Try.prog 83 0 = some 0 := by kernel_rfl
@[simp] theorem fsz_83_0 : fsz Try.prog 83 0 = some 1 := by kernel_rfl
@[simp] theorem fo_83_1 : fo Try.prog 83 1 = some 1 := by kernel_rfl
@[simp] theorem fsz_83_1 : fsz Try.prog 83 1 = some 1 := by kernel_rfl
@[simp] theorem fo_83_2 : fo Try.prog 83 2 = some 2 := by kernel_rfl
@[simp] theorem fsz_83_2 : fsz Try.prog 83 2 = some 1 := by kernel_rfl
@[simp] theorem sz_84 : sz Try.prog 84 = some 3 := by kernel_rfl
@[simp] theorem bytes_84 : bytes Try.prog 84 = some 32 := by kernel_rfl
@[simp] theorem szz_84 : szz Try.prog 84 = some 3 := by kernel_rfl
@[simp] theorem isAg_84 : isAg Try.prog 84 = some true := by kernel_rfl
@[simp] theorem zeroC_84 : zeroC Try.prog 84 = some [.v (.int .i64 0), .v (.int .i64 0), .v (.str [])] := by kernel_rfl
@[simp] theorem fieldsOk_84 : fieldsOk Try.prog 84 = true := by kernel_rfl
@[simp] theorem eqKinds_84 : eqKinds Try.prog 84 = some [1, 1, 2] := by kernel_rfl
@[simp] theorem fo_84_0 : fo Try.prog 84 0 = some 0 := by kernel_rfl
@[simp] theorem fsz_84_0 : fsz Try.prog 84 0 = some 1 := by kernel_rfl
@[simp] theorem fo_84_1 : fo Try.prog 84 1 = some 1 := by kernel_rfl
@[simp] theorem fsz_84_1 : fsz Try.prog 84 1 = some 1 := by kernel_rfl
@[simp] theorem fo_84_2 : fo Try.prog 84 2 = some 2 := by kernel_rfl
@[simp] theorem fsz_84_2 : fsz Try.prog 84 2 = some 1 := by kernel_rfl
@[simp] theorem sz_85 : sz Try.prog 85 = some 1 := by kernel_rfl
@[simp] theorem bytes_85 : bytes Try.prog 85 = some 8 := by kernel_rfl
@[simp] theorem szz_85 : szz Try.prog 85 = some 1 := by kernel_rfl
@[simp] theorem isAg_85 : isAg Try.prog 85 = some false := by kernel_rfl
@[simp] theorem zeroC_85 : zeroC Try.prog 85 = some [.v .any] := by kernel_rfl
@[simp] theorem sz_86 : sz Try.prog 86 = some 1 := by kernel_rfl
@[simp] theorem bytes_86 : bytes Try.prog 86 = some 8 := by kernel_rfl
@[simp] theorem szz_86 : szz Try.prog 86 = some 1 := by kernel_rfl
@[simp] theorem isAg_86 : isAg Try.prog 86 = some false := by kernel_rfl
@[simp] theorem zeroC_86 : zeroC Try.prog 86 = some [.v .any] := by kernel_rfl
@[simp] theorem sz_87 : sz Try.prog 87 = some 1 := by kernel_rfl
@[simp] theorem bytes_87 : bytes Try.prog 87 = some 8 := by kernel_rfl
@[simp] theorem szz_87 : szz Try.prog 87 = some 1 := by kernel_rfl
@[simp] theorem isAg_87 : isAg Try.prog 87 = some false := by kernel_rfl
@[simp] theorem zeroC_87 : zeroC Try.prog 87 = some [.v .any] := by kernel_rfl
@[simp] theorem sz_88 : sz Try.prog 88 = some 1 := by kernel_rfl
@[simp] theorem bytes_88 : bytes Try.prog 88 = some 24 := by kernel_rfl
@[simp] theorem szz_88 : szz Try.prog 88 = some 1 := by kernel_rfl
@[simp] theorem isAg_88 : isAg Try.prog 88 = some false := by kernel_rfl
@[simp] theorem elT_88 : elT Try.prog 88 = some 3 := by kernel_rfl
@[simp] theorem isStr_88 : isStr Try.prog 88 = some false := by kernel_rfl
@[simp] theorem zeroC_88 : zeroC Try.prog 88 = some [.nil] := by kernel_rfl
@[simp] theorem sz_89 : sz Try.prog 89 = some 1 := by kernel_rfl
@[simp] theorem bytes_89 : bytes Try.prog 89 = some 8 := by kernel_rfl
@[simp] theorem szz_89 : szz Try.prog 89 = some 1 := by kernel_rfl
@[simp] theorem isAg_89 : isAg Try.prog 89 = some false := by kernel_rfl
@[simp] theorem zeroC_89 : zeroC Try.prog 89 = some [.v .any] := by kernel_rfl
@[simp] theorem sz_90 : sz Try.prog 90 = some 1 := by kernel_rfl
@[simp] theorem bytes_90 : bytes Try.prog 90 = some 8 := by kernel_rfl
@[simp] theorem szz_90 : szz Try.prog 90 = some 1 := by kernel_rfl
@[simp] theorem isAg_90 : isAg Try.prog 90 = some false := by kernel_rfl
@[simp] theorem zeroC_90 : zeroC Try.prog 90 = some [.v .any] := by kernel_rfl
@[simp] theorem sz_91 : sz Try.prog 91 = some 1 := by kernel_rfl
@[simp] theorem bytes_91 : bytes Try.prog 91 = some 8 := by kernel_rfl
@[simp] theorem szz_91 : szz Try.prog 91 = some 1 := by kernel_rfl
@[simp] theorem isAg_91 : isAg Try.prog 91 = some false := by kernel_rfl
@[simp] theorem zeroC_91 : zeroC Try.prog 91 = some [.v .any] := by kernel_rfl
@[simp] theorem sz_92 : sz Try.prog 92 = some 1 := by kernel_rfl
@[simp] theorem bytes_92 : bytes Try.prog 92 = some 8 := by kernel_rfl
@[simp] theorem szz_92 : szz Try.prog 92 = some 1 := by kernel_rfl
@[simp] theorem isAg_92 : isAg Try.prog 92 = some false := by kernel_rfl
@[simp] theorem zeroC_92 : zeroC Try.prog 92 = some [.v .any] := by kernel_rfl
@[simp] theorem sz_93 : sz Try.prog 93 = some 1 := by kernel_rfl
@[simp] theorem bytes_93 : bytes Try.prog 93 = some 8 := by kernel_rfl
@[simp] theorem szz_93 : szz Try.prog 93 = some 1 := by kernel_rfl
@[simp] theorem isAg_93 : isAg Try.prog 93 = some false := by kernel_rfl
@[simp] theorem zeroC_93 : zeroC Try.prog 93 = some [.v .any] := by kernel_rfl
@[simp] theorem sz_94 : sz Try.prog 94 = some 1 := by kernel_rfl
@[simp] theorem bytes_94 : bytes Try.prog 94 = some 8 := by kernel_rfl
@[simp] theorem szz_94 : szz Try.prog 94 = some 1 := by kernel_rfl
@[simp] theorem isAg_94 : isAg Try.prog 94 = some false := by kernel_rfl
@[simp] theorem zeroC_94 : zeroC Try.prog 94 = some [.v .any] := by kernel_rfl
@[simp] theorem sz_95 : sz Try.prog 95 = some 1 := by kernel_rfl
@[simp] theorem bytes_95 : bytes Try.prog 95 = some 8 := by kernel_rfl
@[simp] theorem szz_95 : szz Try.prog 95 = some 1 := by kernel_rfl
@[simp] theorem isAg_95 : isAg Try.prog 95 = some false := by kernel_rfl
@[simp] theorem zeroC_95 : zeroC Try.prog 95 = some [.v .any] := by kernel_rfl
@[simp] theorem sz_96 : sz Try.prog 96 = some 1 := by kernel_rfl
@[simp] theorem bytes_96 : bytes Try.prog 96 = some 24 := by kernel_rfl
@[simp] theorem szz_96 : szz Try.prog 96 = some 1 := by kernel_rfl
@[simp] theorem isAg_96 : isAg Try.prog 96 = some false := by kernel_rfl
@[simp] theorem elT_96 : elT Try.prog 96 = some 23 := by kernel_rfl
@[simp] theorem isStr_96 : isStr Try.prog 96 = some false := by kernel_rfl
@[simp] theorem zeroC_96 : zeroC Try.prog 96 = some [.nil] := by kernel_rfl
@[simp] theorem sz_98 : sz Try.prog 98 = some 1 := by kernel_rfl
@[simp] theorem bytes_98 : bytes Try.prog 98 = some 8 := by kernel_rfl
@[simp] theorem szz_98 : szz Try.prog 98 = some 1 := by kernel_rfl
@[simp] theorem isAg_98 : isAg Try.prog 98 = some false := by kernel_rfl
@[simp] theorem zeroC_98 : zeroC Try.prog 98 = some [.v .any] := by kernel_rfl
@[simp] theorem sz_99 : sz Try.prog 99 = some 1 := by kernel_rfl
@[simp] theorem bytes_99 : bytes Try.prog 99 = some 8 := by kernel_rfl
@[simp] theorem szz_99 : szz Try.prog 99 = some 1 := by kernel_rfl
@[simp] theorem isAg_99 : isAg Try.prog 99 = some false := by kernel_rfl
@[simp] theorem zeroC_99 : zeroC Try.prog 99 = some [.v .any] := by kernel_rfl
@[simp] theorem sz_101 : sz Try.prog 101 = some 1 := by kernel_rfl
@[simp] theorem bytes_101 : bytes Try.prog 101 = some 8 := by kernel_rfl
@[simp] theorem szz_101 : szz Try.prog 101 = some 1 := by kernel_rfl
@[simp] theorem isAg_101 : isAg Try.prog 101 = some false := by kernel_rfl
@[simp] theorem zeroC_101 : zeroC Try.prog 101 = some [.v .any] := by kernel_rfl
@[simp] theorem sz_102 : sz Try.prog 102 = some 1 := by kernel_rfl
@[simp] theorem bytes_102 : bytes Try.prog 102 = some 8 := by kernel_rfl
@[simp] theorem szz_102 : szz Try.prog 102 = some 1 := by kernel_rfl
@[simp] theorem isAg_102 : isAg Try.prog 102 = some false := by kernel_rfl
@[simp] theorem zeroC_102 : zeroC Try.prog 102 = some [.v .any] := by kernel_rfl
@[simp] theorem sz_103 : sz Try.prog 103 = some 1 := by kernel_rfl
@[simp] theorem bytes_103 : bytes Try.prog 103 = some 8 := by kernel_rfl
@[simp] theorem szz_103 : szz Try.prog 103 = some 1 := by kernel_rfl
@[simp] theorem isAg_103 : isAg Try.prog 103 = some false := by kernel_rfl
@[simp] theorem zeroC_103 : zeroC Try.prog 103 = some [.v .any] := by kernel_rfl
@[simp] theorem sz_104 : sz Try.prog 104 = some 1 := by kernel_rfl
@[simp] theorem bytes_104 : bytes Try.prog 104 = some 8 := by kernel_rfl
@[simp] theorem szz_104 : szz Try.prog 104 = some 1 := by kernel_rfl
@[simp] theorem isAg_104 : isAg Try.prog 104 = some false := by kernel_rfl
@[simp] theorem intK_104 : intK Try.prog 104 = some .u64 := by kernel_rfl
@[simp] theorem zeroC_104 : zeroC Try.prog 104 = some [.v (.int .u64 0)] := by kernel_rfl
@[simp] theorem sz_105 : sz Try.prog 105 = some 1 := by kernel_rfl
@[simp] theorem bytes_105 : bytes Try.prog 105 = some 8 := by kernel_rfl
@[simp] theorem szz_105 : szz Try.prog 105 = some 1 := by kernel_rfl
@[simp] theorem isAg_105 : isAg Try.prog 105 = some false := by kernel_rfl
@[simp] theorem zeroC_105 : zeroC Try.prog 105 = some [.v .any] := by kernel_rfl
@[simp] theorem sz_106 : sz Try.prog 106 = some 1 := by kernel_rfl
@[simp] theorem bytes_106 : bytes Try.prog 106 = some 8 := by kernel_rfl
@[simp] theorem szz_106 : szz Try.prog 106 = some 1 := by kernel_rfl
@[simp] theorem isAg_106 : isAg Try.prog 106 = some false := by kernel_rfl
@[simp] theorem zeroC_106 : zeroC Try.prog 106 = some [.v .any] := by kernel_rfl
@[simp] theorem sz_107 : sz Try.prog 107 = some 1 := by kernel_rfl
@[simp] theorem bytes_107 : bytes Try.prog 107 = some 8 := by kernel_rfl
@[simp] theorem szz_107 : szz Try.prog 107 = some 1 := by kernel_rfl
@[simp] theorem isAg_107 : isAg Try.prog 107 = some false := by kernel_rfl
@[simp] theorem zeroC_107 : zeroC Try.prog 107 = some [.v .any] := by kernel_rfl
@[simp] theorem sz_108 : sz Try.prog 108 = some 1 := by kernel_rfl
@[simp] theorem bytes_108 : bytes Try.prog 108 = some 8 := by kernel_rfl
@[simp] theorem szz_108 : szz Try.prog 108 = some 1 := by kernel_rfl
@[simp] theorem isAg_108 : isAg Try.prog 108 = some false := by kernel_rfl
@[simp] theorem zeroC_108 : zeroC Try.prog 108 = some [.v .any] := by kernel_rfl
@[simp] theorem sz_114 : sz Try.prog 114 = some 1 := by kernel_rfl
@[simp] theorem bytes_114 : bytes Try.prog 114 = some 8 := by kernel_rfl
@[simp] theorem szz_114 : szz Try.prog 114 = some 1 := by kernel_rfl
@[simp] theorem isAg_114 : isAg Try.prog 114 = some false := by kernel_rfl
@[simp] theorem zeroC_114 : zeroC Try.prog 114 = some [.v .any] := by kernel_rfl
@[simp] theorem sz_115 : sz Try.prog 115 = some 1 := by kernel_rfl
@[simp] theorem bytes_115 : bytes Try.prog 115 = some 4 := by kernel_rfl
@[simp] theorem szz_115 : szz Try.prog 115 = some 1 := by kernel_rfl
@[simp] theorem isAg_115 : isAg Try.prog 115 = some false := by kernel_rfl
@[simp] theorem intK_115 : intK Try.prog 115 = some .u32 := by kernel_rfl
@[simp] theorem zeroC_115 : zeroC Try.prog 115 = some [.v (.int .u32 0)] := by kernel_rfl
@[simp] theorem sz_118 : sz Try.prog 118 = some 1 := by kernel_rfl
@[simp] theorem bytes_118 : bytes Try.prog 118 = some 8 := by kernel_rfl
@[simp] theorem szz_118 : szz Try.prog 118 = some 1 := by kernel_rfl
@[simp] theorem isAg_118 : isAg Try.prog 118 = some false := by kernel_rfl
@[simp] theorem zeroC_118 : zeroC Try.prog 118 = some [.v .any] := by kernel_rfl
@[simp] theorem sz_119 : sz Try.prog 119 = some 1 := by kernel_rfl
@[simp] theorem bytes_119 : bytes Try.prog 119 = some 8 := by kernel_rfl
@[simp] theorem szz_119 : szz Try.prog 119 = some 1 := by kernel_rfl
@[simp] theorem isAg_119 : isAg Try.prog 119 = some false := by kernel_rfl
@[simp] theorem zeroC_119 : zeroC Try.prog 119 = some [.v .any] := by kernel_rfl
end TL
