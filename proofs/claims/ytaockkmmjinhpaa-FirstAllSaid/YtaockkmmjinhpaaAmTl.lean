/-
  Types and functions of the program, one by one.
-/
import Derived.Test.YtaockkmmjinhpaaAmY
import Derived.Test.YtaockkmmjinhpaaAmTab
namespace Go.Proofs.Ytaockkmmjinhpaa
open Go Go.Am
@[go_sem] theorem T_1 : T 1 = some ⟨.func, 1, 8, [.nilFn], false⟩ := rfl
@[go_sem] theorem T_2 : T 2 = some ⟨(.int .i64), 1, 8, [(.int .i64 0)], false⟩ := rfl
@[go_sem] theorem T_3 : T 3 = some ⟨(.int .i64), 1, 8, [(.int .i64 0)], false⟩ := rfl
@[go_sem] theorem T_4 : T 4 = some ⟨.bool, 1, 1, [(.bool false)], false⟩ := rfl
@[go_sem] theorem T_5 : T 5 = some ⟨(.int .u8), 1, 1, [(.int .u8 0)], false⟩ := rfl
@[go_sem] theorem T_6 : T 6 = some ⟨(.int .u8), 1, 1, [(.int .u8 0)], false⟩ := rfl
@[go_sem] theorem T_7 : T 7 = some ⟨(.strct [(false, 2, 0), (false, 3, 1), (false, 4, 2), (false, 6, 3)]), 4, 24, [(.int .i64 0), (.int .i64 0), (.bool false), (.int .u8 0)], true⟩ := rfl
@[go_sem] theorem T_8 : T 8 = some ⟨(.strct [(false, 2, 0), (false, 3, 1), (false, 4, 2), (false, 6, 3)]), 4, 24, [(.int .i64 0), (.int .i64 0), (.bool false), (.int .u8 0)], true⟩ := rfl
@[go_sem] theorem T_9 : T 9 = some ⟨.str, 1, 16, [(.str [])], false⟩ := rfl
@[go_sem] theorem T_10 : T 10 = some ⟨.str, 1, 16, [(.str [])], false⟩ := rfl
@[go_sem] theorem T_11 : T 11 = some ⟨.str, 1, 16, [(.str [])], false⟩ := rfl
@[go_sem] theorem T_12 : T 12 = some ⟨(.int .u64), 1, 8, [(.int .u64 0)], false⟩ := rfl
@[go_sem] theorem T_13 : T 13 = some ⟨(.strct [(false, 9, 0), (false, 12, 1)]), 2, 24, [(.str []), (.int .u64 0)], false⟩ := rfl
@[go_sem] theorem T_14 : T 14 = some ⟨(.strct [(false, 9, 0), (false, 12, 1)]), 2, 24, [(.str []), (.int .u64 0)], false⟩ := rfl
@[go_sem] theorem T_15 : T 15 = some ⟨(.ptr 188), 1, 8, [(.ptr none)], false⟩ := rfl
@[go_sem] theorem T_16 : T 16 = some ⟨(.ptr 191), 1, 8, [(.ptr none)], false⟩ := rfl
@[go_sem] theorem T_17 : T 17 = some ⟨(.ptr 200), 1, 8, [(.ptr none)], false⟩ := rfl
@[go_sem] theorem T_18 : T 18 = some ⟨(.strct [(false, 17, 0)]), 1, 8, [(.ptr none)], false⟩ := rfl
@[go_sem] theorem T_19 : T 19 = some ⟨(.strct [(false, 17, 0)]), 1, 8, [(.ptr none)], false⟩ := rfl
@[go_sem] theorem T_20 : T 20 = some ⟨.iface, 1, 16, [.nilIface], false⟩ := rfl
@[go_sem] theorem T_21 : T 21 = some ⟨(.int .i32), 1, 4, [(.int .i32 0)], false⟩ := rfl
@[go_sem] theorem T_22 : T 22 = some ⟨(.slc 29), 1, 24, [(.slc none 0 (some 0) 0)], false⟩ := rfl
@[go_sem] theorem T_23 : T 23 = some ⟨.func, 1, 8, [.nilFn], false⟩ := rfl
@[go_sem] theorem T_24 : T 24 = some ⟨(.slc 39), 1, 24, [(.slc none 0 (some 0) 0)], false⟩ := rfl
@[go_sem] theorem T_25 : T 25 = some ⟨(.strct [(false, 9, 0), (false, 9, 1), (false, 24, 2)]), 3, 56, [(.str []), (.str []), (.slc none 0 (some 0) 0)], true⟩ := rfl
@[go_sem] theorem T_26 : T 26 = some ⟨(.strct [(false, 9, 0), (false, 9, 1), (false, 24, 2)]), 3, 56, [(.str []), (.str []), (.slc none 0 (some 0) 0)], true⟩ := rfl
@[go_sem] theorem T_27 : T 27 = some ⟨.func, 1, 8, [.nilFn], false⟩ := rfl
@[go_sem] theorem T_28 : T 28 = some ⟨(.strct [(false, 3, 0), (false, 3, 1), (false, 9, 2)]), 3, 32, [(.int .i64 0), (.int .i64 0), (.str [])], true⟩ := rfl
@[go_sem] theorem T_29 : T 29 = some ⟨(.strct [(false, 3, 0), (false, 3, 1), (false, 9, 2)]), 3, 32, [(.int .i64 0), (.int .i64 0), (.str [])], true⟩ := rfl
@[go_sem] theorem T_31 : T 31 = some ⟨.func, 1, 8, [.nilFn], false⟩ := rfl
@[go_sem] theorem T_33 : T 33 = some ⟨.func, 1, 8, [.nilFn], false⟩ := rfl
@[go_sem] theorem T_34 : T 34 = some ⟨.func, 1, 8, [.nilFn], false⟩ := rfl
@[go_sem] theorem T_35 : T 35 = some ⟨.func, 1, 8, [.nilFn], false⟩ := rfl
@[go_sem] theorem T_36 : T 36 = some ⟨.func, 1, 8, [.nilFn], false⟩ := rfl
@[go_sem] theorem T_37 : T 37 = some ⟨.func, 1, 8, [.nilFn], false⟩ := rfl
@[go_sem] theorem T_38 : T 38 = some ⟨(.strct [(false, 4, 0), (false, 3, 1), (false, 3, 2)]), 3, 24, [(.bool false), (.int .i64 0), (.int .i64 0)], true⟩ := rfl
@[go_sem] theorem T_39 : T 39 = some ⟨(.strct [(false, 4, 0), (false, 3, 1), (false, 3, 2)]), 3, 24, [(.bool false), (.int .i64 0), (.int .i64 0)], true⟩ := rfl
@[go_sem] theorem T_40 : T 40 = some ⟨.func, 1, 8, [.nilFn], false⟩ := rfl
@[go_sem] theorem T_41 : T 41 = some ⟨(.slc 9), 1, 24, [(.slc none 0 (some 0) 0)], false⟩ := rfl
@[go_sem] theorem T_42 : T 42 = some ⟨(.slc 3), 1, 24, [(.slc none 0 (some 0) 0)], false⟩ := rfl
@[go_sem] theorem T_43 : T 43 = some ⟨(.slc 44), 1, 24, [(.slc none 0 (some 0) 0)], false⟩ := rfl
@[go_sem] theorem T_44 : T 44 = some ⟨(.arr 3 5), 3, 3, [(.int .u8 0), (.int .u8 0), (.int .u8 0)], false⟩ := rfl
@[go_sem] theorem T_45 : T 45 = some ⟨.func, 1, 8, [.nilFn], false⟩ := rfl
@[go_sem] theorem T_46 : T 46 = some ⟨(.slc 57), 1, 24, [(.slc none 0 (some 0) 0)], false⟩ := rfl
@[go_sem] theorem T_47 : T 47 = some ⟨(.slc 59), 1, 24, [(.slc none 0 (some 0) 0)], false⟩ := rfl
@[go_sem] theorem T_48 : T 48 = some ⟨(.slc 63), 1, 24, [(.slc none 0 (some 0) 0)], false⟩ := rfl
@[go_sem] theorem T_49 : T 49 = some ⟨(.strct [(false, 46, 0), (false, 47, 1), (false, 48, 2)]), 3, 72, [(.slc none 0 (some 0) 0), (.slc none 0 (some 0) 0), (.slc none 0 (some 0) 0)], true⟩ := rfl
@[go_sem] theorem T_50 : T 50 = some ⟨(.strct [(false, 46, 0), (false, 47, 1), (false, 48, 2)]), 3, 72, [(.slc none 0 (some 0) 0), (.slc none 0 (some 0) 0), (.slc none 0 (some 0) 0)], true⟩ := rfl
@[go_sem] theorem T_51 : T 51 = some ⟨(.slc 5), 1, 24, [(.slc none 0 (some 0) 0)], false⟩ := rfl
@[go_sem] theorem T_52 : T 52 = some ⟨.func, 1, 8, [.nilFn], false⟩ := rfl
@[go_sem] theorem T_53 : T 53 = some ⟨(.ptr 125), 1, 8, [(.ptr none)], false⟩ := rfl
@[go_sem] theorem T_54 : T 54 = some ⟨.func, 1, 8, [.nilFn], false⟩ := rfl
@[go_sem] theorem T_55 : T 55 = some ⟨.func, 1, 8, [.nilFn], false⟩ := rfl
@[go_sem] theorem T_56 : T 56 = some ⟨(.strct [(false, 9, 0), (false, 9, 1), (false, 4, 2)]), 3, 40, [(.str []), (.str []), (.bool false)], true⟩ := rfl
@[go_sem] theorem T_57 : T 57 = some ⟨(.strct [(false, 9, 0), (false, 9, 1), (false, 4, 2)]), 3, 40, [(.str []), (.str []), (.bool false)], true⟩ := rfl
@[go_sem] theorem T_58 : T 58 = some ⟨(.strct [(false, 9, 0), (false, 41, 1), (false, 41, 2)]), 3, 64, [(.str []), (.slc none 0 (some 0) 0), (.slc none 0 (some 0) 0)], true⟩ := rfl
@[go_sem] theorem T_59 : T 59 = some ⟨(.strct [(false, 9, 0), (false, 41, 1), (false, 41, 2)]), 3, 64, [(.str []), (.slc none 0 (some 0) 0), (.slc none 0 (some 0) 0)], true⟩ := rfl
@[go_sem] theorem T_60 : T 60 = some ⟨(.slc 66), 1, 24, [(.slc none 0 (some 0) 0)], false⟩ := rfl
@[go_sem] theorem T_61 : T 61 = some ⟨(.slc 135), 1, 24, [(.slc none 0 (some 0) 0)], false⟩ := rfl
@[go_sem] theorem T_62 : T 62 = some ⟨(.strct [(false, 3, 0), (false, 60, 1), (false, 61, 2)]), 3, 56, [(.int .i64 0), (.slc none 0 (some 0) 0), (.slc none 0 (some 0) 0)], true⟩ := rfl
@[go_sem] theorem T_63 : T 63 = some ⟨(.strct [(false, 3, 0), (false, 60, 1), (false, 61, 2)]), 3, 56, [(.int .i64 0), (.slc none 0 (some 0) 0), (.slc none 0 (some 0) 0)], true⟩ := rfl
@[go_sem] theorem T_64 : T 64 = some ⟨(.ptr 63), 1, 8, [(.ptr none)], false⟩ := rfl
@[go_sem] theorem T_65 : T 65 = some ⟨(.strct [(false, 4, 0), (false, 3, 1)]), 2, 16, [(.bool false), (.int .i64 0)], true⟩ := rfl
@[go_sem] theorem T_66 : T 66 = some ⟨(.strct [(false, 4, 0), (false, 3, 1)]), 2, 16, [(.bool false), (.int .i64 0)], true⟩ := rfl
@[go_sem] theorem T_67 : T 67 = some ⟨.func, 1, 8, [.nilFn], false⟩ := rfl
@[go_sem] theorem T_68 : T 68 = some ⟨(.slc 50), 1, 24, [(.slc none 0 (some 0) 0)], false⟩ := rfl
@[go_sem] theorem T_69 : T 69 = some ⟨.func, 1, 8, [.nilFn], false⟩ := rfl
@[go_sem] theorem T_70 : T 70 = some ⟨.func, 1, 8, [.nilFn], false⟩ := rfl
@[go_sem] theorem T_71 : T 71 = some ⟨.func, 1, 8, [.nilFn], false⟩ := rfl
@[go_sem] theorem T_72 : T 72 = some ⟨.func, 1, 8, [.nilFn], false⟩ := rfl
@[go_sem] theorem T_73 : T 73 = some ⟨(.slc 4), 1, 24, [(.slc none 0 (some 0) 0)], false⟩ := rfl
@[go_sem] theorem T_74 : T 74 = some ⟨(.slc 73), 1, 24, [(.slc none 0 (some 0) 0)], false⟩ := rfl
@[go_sem] theorem T_75 : T 75 = some ⟨(.strct [(false, 73, 0), (false, 74, 1), (false, 74, 2)]), 3, 72, [(.slc none 0 (some 0) 0), (.slc none 0 (some 0) 0), (.slc none 0 (some 0) 0)], true⟩ := rfl
@[go_sem] theorem T_76 : T 76 = some ⟨(.strct [(false, 73, 0), (false, 74, 1), (false, 74, 2)]), 3, 72, [(.slc none 0 (some 0) 0), (.slc none 0 (some 0) 0), (.slc none 0 (some 0) 0)], true⟩ := rfl
@[go_sem] theorem T_77 : T 77 = some ⟨.func, 1, 8, [.nilFn], false⟩ := rfl
@[go_sem] theorem T_78 : T 78 = some ⟨.func, 1, 8, [.nilFn], false⟩ := rfl
@[go_sem] theorem T_79 : T 79 = some ⟨.func, 1, 8, [.nilFn], false⟩ := rfl
@[go_sem] theorem T_80 : T 80 = some ⟨.func, 1, 8, [.nilFn], false⟩ := rfl
@[go_sem] theorem T_81 : T 81 = some ⟨.func, 1, 8, [.nilFn], false⟩ := rfl
@[go_sem] theorem T_83 : T 83 = some ⟨.func, 1, 8, [.nilFn], false⟩ := rfl
@[go_sem] theorem T_84 : T 84 = some ⟨.func, 1, 8, [.nilFn], false⟩ := rfl
@[go_sem] theorem T_85 : T 85 = some ⟨(.slc 98), 1, 24, [(.slc none 0 (some 0) 0)], false⟩ := rfl
@[go_sem] theorem T_86 : T 86 = some ⟨.func, 1, 8, [.nilFn], false⟩ := rfl
@[go_sem] theorem T_87 : T 87 = some ⟨(.slc 42), 1, 24, [(.slc none 0 (some 0) 0)], false⟩ := rfl
@[go_sem] theorem T_88 : T 88 = some ⟨(.slc 104), 1, 24, [(.slc none 0 (some 0) 0)], false⟩ := rfl
@[go_sem] theorem T_90 : T 90 = some ⟨.func, 1, 8, [.nilFn], false⟩ := rfl
@[go_sem] theorem T_91 : T 91 = some ⟨(.slc 170), 1, 24, [(.slc none 0 (some 0) 0)], false⟩ := rfl
@[go_sem] theorem T_92 : T 92 = some ⟨(.strct [(false, 91, 0), (false, 3, 1)]), 2, 32, [(.slc none 0 (some 0) 0), (.int .i64 0)], true⟩ := rfl
@[go_sem] theorem T_93 : T 93 = some ⟨(.strct [(false, 91, 0), (false, 3, 1)]), 2, 32, [(.slc none 0 (some 0) 0), (.int .i64 0)], true⟩ := rfl
@[go_sem] theorem T_94 : T 94 = some ⟨(.int .i64), 1, 8, [(.int .i64 0)], false⟩ := rfl
@[go_sem] theorem T_96 : T 96 = some ⟨.func, 1, 8, [.nilFn], false⟩ := rfl
@[go_sem] theorem T_97 : T 97 = some ⟨(.strct [(false, 3, 0), (false, 9, 1)]), 2, 24, [(.int .i64 0), (.str [])], true⟩ := rfl
@[go_sem] theorem T_98 : T 98 = some ⟨(.strct [(false, 3, 0), (false, 9, 1)]), 2, 24, [(.int .i64 0), (.str [])], true⟩ := rfl
@[go_sem] theorem T_99 : T 99 = some ⟨.func, 1, 8, [.nilFn], false⟩ := rfl
@[go_sem] theorem T_100 : T 100 = some ⟨.func, 1, 8, [.nilFn], false⟩ := rfl
@[go_sem] theorem T_101 : T 101 = some ⟨.func, 1, 8, [.nilFn], false⟩ := rfl
@[go_sem] theorem T_102 : T 102 = some ⟨.func, 1, 8, [.nilFn], false⟩ := rfl
@[go_sem] theorem T_103 : T 103 = some ⟨(.strct [(false, 3, 0), (false, 3, 1), (false, 3, 2), (false, 3, 3)]), 4, 32, [(.int .i64 0), (.int .i64 0), (.int .i64 0), (.int .i64 0)], true⟩ := rfl
@[go_sem] theorem T_104 : T 104 = some ⟨(.strct [(false, 3, 0), (false, 3, 1), (false, 3, 2), (false, 3, 3)]), 4, 32, [(.int .i64 0), (.int .i64 0), (.int .i64 0), (.int .i64 0)], true⟩ := rfl
@[go_sem] theorem T_105 : T 105 = some ⟨.func, 1, 8, [.nilFn], false⟩ := rfl
@[go_sem] theorem T_106 : T 106 = some ⟨.func, 1, 8, [.nilFn], false⟩ := rfl
@[go_sem] theorem T_108 : T 108 = some ⟨.func, 1, 8, [.nilFn], false⟩ := rfl
@[go_sem] theorem T_109 : T 109 = some ⟨.func, 1, 8, [.nilFn], false⟩ := rfl
@[go_sem] theorem T_110 : T 110 = some ⟨(.ptr 112), 1, 8, [(.ptr none)], false⟩ := rfl
@[go_sem] theorem T_111 : T 111 = some ⟨(.strct [(false, 110, 0), (false, 51, 1)]), 2, 32, [(.ptr none), (.slc none 0 (some 0) 0)], true⟩ := rfl
@[go_sem] theorem T_112 : T 112 = some ⟨(.strct [(false, 110, 0), (false, 51, 1)]), 2, 32, [(.ptr none), (.slc none 0 (some 0) 0)], true⟩ := rfl
@[go_sem] theorem T_113 : T 113 = some ⟨.func, 1, 8, [.nilFn], false⟩ := rfl
@[go_sem] theorem T_114 : T 114 = some ⟨.func, 1, 8, [.nilFn], false⟩ := rfl
@[go_sem] theorem T_115 : T 115 = some ⟨.func, 1, 8, [.nilFn], false⟩ := rfl
@[go_sem] theorem T_116 : T 116 = some ⟨.iface, 1, 16, [.nilIface], false⟩ := rfl
@[go_sem] theorem T_117 : T 117 = some ⟨.iface, 1, 16, [.nilIface], false⟩ := rfl
@[go_sem] theorem T_119 : T 119 = some ⟨.func, 1, 8, [.nilFn], false⟩ := rfl
@[go_sem] theorem T_120 : T 120 = some ⟨.func, 1, 8, [.nilFn], false⟩ := rfl
@[go_sem] theorem T_121 : T 121 = some ⟨.func, 1, 8, [.nilFn], false⟩ := rfl
@[go_sem] theorem T_122 : T 122 = some ⟨.func, 1, 8, [.nilFn], false⟩ := rfl
@[go_sem] theorem T_123 : T 123 = some ⟨.func, 1, 8, [.nilFn], false⟩ := rfl
@[go_sem] theorem T_124 : T 124 = some ⟨(.strct [(false, 51, 0), (false, 3, 1)]), 2, 32, [(.slc none 0 (some 0) 0), (.int .i64 0)], true⟩ := rfl
@[go_sem] theorem T_125 : T 125 = some ⟨(.strct [(false, 51, 0), (false, 3, 1)]), 2, 32, [(.slc none 0 (some 0) 0), (.int .i64 0)], true⟩ := rfl
@[go_sem] theorem T_126 : T 126 = some ⟨.func, 1, 8, [.nilFn], false⟩ := rfl
@[go_sem] theorem T_127 : T 127 = some ⟨(.slc 129), 1, 24, [(.slc none 0 (some 0) 0)], false⟩ := rfl
@[go_sem] theorem T_128 : T 128 = some ⟨(.strct [(false, 3, 0), (false, 2, 1), (false, 9, 2), (false, 127, 3)]), 4, 56, [(.int .i64 0), (.int .i64 0), (.str []), (.slc none 0 (some 0) 0)], true⟩ := rfl
@[go_sem] theorem T_129 : T 129 = some ⟨(.strct [(false, 3, 0), (false, 2, 1), (false, 9, 2), (false, 127, 3)]), 4, 56, [(.int .i64 0), (.int .i64 0), (.str []), (.slc none 0 (some 0) 0)], true⟩ := rfl
@[go_sem] theorem T_130 : T 130 = some ⟨(.slc 132), 1, 24, [(.slc none 0 (some 0) 0)], false⟩ := rfl
@[go_sem] theorem T_131 : T 131 = some ⟨(.strct [(false, 3, 0), (false, 129, 1), (false, 3, 5), (false, 3, 6), (false, 130, 7)]), 8, 104, [(.int .i64 0), (.int .i64 0), (.int .i64 0), (.str []), (.slc none 0 (some 0) 0), (.int .i64 0), (.int .i64 0), (.slc none 0 (some 0) 0)], true⟩ := rfl
@[go_sem] theorem T_132 : T 132 = some ⟨(.strct [(false, 3, 0), (false, 129, 1), (false, 3, 5), (false, 3, 6), (false, 130, 7)]), 8, 104, [(.int .i64 0), (.int .i64 0), (.int .i64 0), (.str []), (.slc none 0 (some 0) 0), (.int .i64 0), (.int .i64 0), (.slc none 0 (some 0) 0)], true⟩ := rfl
@[go_sem] theorem T_133 : T 133 = some ⟨.func, 1, 8, [.nilFn], false⟩ := rfl
@[go_sem] theorem T_134 : T 134 = some ⟨(.strct [(false, 3, 0), (false, 3, 1), (false, 132, 2)]), 10, 120, [(.int .i64 0), (.int .i64 0), (.int .i64 0), (.int .i64 0), (.int .i64 0), (.str []), (.slc none 0 (some 0) 0), (.int .i64 0), (.int .i64 0), (.slc none 0 (some 0) 0)], true⟩ := rfl
@[go_sem] theorem T_135 : T 135 = some ⟨(.strct [(false, 3, 0), (false, 3, 1), (false, 132, 2)]), 10, 120, [(.int .i64 0), (.int .i64 0), (.int .i64 0), (.int .i64 0), (.int .i64 0), (.str []), (.slc none 0 (some 0) 0), (.int .i64 0), (.int .i64 0), (.slc none 0 (some 0) 0)], true⟩ := rfl
@[go_sem] theorem T_136 : T 136 = some ⟨.func, 1, 8, [.nilFn], false⟩ := rfl
@[go_sem] theorem T_137 : T 137 = some ⟨.func, 1, 8, [.nilFn], false⟩ := rfl
@[go_sem] theorem T_138 : T 138 = some ⟨.func, 1, 8, [.nilFn], false⟩ := rfl
@[go_sem] theorem T_139 : T 139 = some ⟨.func, 1, 8, [.nilFn], false⟩ := rfl
@[go_sem] theorem T_140 : T 140 = some ⟨.func, 1, 8, [.nilFn], false⟩ := rfl
@[go_sem] theorem T_141 : T 141 = some ⟨.func, 1, 8, [.nilFn], false⟩ := rfl
@[go_sem] theorem T_142 : T 142 = some ⟨.func, 1, 8, [.nilFn], false⟩ := rfl
@[go_sem] theorem T_143 : T 143 = some ⟨.func, 1, 8, [.nilFn], false⟩ := rfl
@[go_sem] theorem T_144 : T 144 = some ⟨.func, 1, 8, [.nilFn], false⟩ := rfl
@[go_sem] theorem T_145 : T 145 = some ⟨.func, 1, 8, [.nilFn], false⟩ := rfl
@[go_sem] theorem T_146 : T 146 = some ⟨.func, 1, 8, [.nilFn], false⟩ := rfl
@[go_sem] theorem T_147 : T 147 = some ⟨.func, 1, 8, [.nilFn], false⟩ := rfl
@[go_sem] theorem T_148 : T 148 = some ⟨.func, 1, 8, [.nilFn], false⟩ := rfl
@[go_sem] theorem T_149 : T 149 = some ⟨.func, 1, 8, [.nilFn], false⟩ := rfl
@[go_sem] theorem T_150 : T 150 = some ⟨.func, 1, 8, [.nilFn], false⟩ := rfl
@[go_sem] theorem T_151 : T 151 = some ⟨.func, 1, 8, [.nilFn], false⟩ := rfl
@[go_sem] theorem T_152 : T 152 = some ⟨.func, 1, 8, [.nilFn], false⟩ := rfl
@[go_sem] theorem T_153 : T 153 = some ⟨.func, 1, 8, [.nilFn], false⟩ := rfl
@[go_sem] theorem T_154 : T 154 = some ⟨.func, 1, 8, [.nilFn], false⟩ := rfl
@[go_sem] theorem T_155 : T 155 = some ⟨.func, 1, 8, [.nilFn], false⟩ := rfl
@[go_sem] theorem T_156 : T 156 = some ⟨.func, 1, 8, [.nilFn], false⟩ := rfl
@[go_sem] theorem T_157 : T 157 = some ⟨.func, 1, 8, [.nilFn], false⟩ := rfl
@[go_sem] theorem T_158 : T 158 = some ⟨.func, 1, 8, [.nilFn], false⟩ := rfl
@[go_sem] theorem T_159 : T 159 = some ⟨.func, 1, 8, [.nilFn], false⟩ := rfl
@[go_sem] theorem T_161 : T 161 = some ⟨.func, 1, 8, [.nilFn], false⟩ := rfl
@[go_sem] theorem T_162 : T 162 = some ⟨(.ptr 164), 1, 8, [(.ptr none)], false⟩ := rfl
@[go_sem] theorem T_163 : T 163 = some ⟨(.strct [(false, 50, 0), (false, 87, 3), (false, 85, 4), (false, 3, 5), (false, 93, 6), (false, 94, 8)]), 9, 168, [(.slc none 0 (some 0) 0), (.slc none 0 (some 0) 0), (.slc none 0 (some 0) 0), (.slc none 0 (some 0) 0), (.slc none 0 (some 0) 0), (.int .i64 0), (.slc none 0 (some 0) 0), (.int .i64 0), (.int .i64 0)], true⟩ := rfl
@[go_sem] theorem T_164 : T 164 = some ⟨(.strct [(false, 50, 0), (false, 87, 3), (false, 85, 4), (false, 3, 5), (false, 93, 6), (false, 94, 8)]), 9, 168, [(.slc none 0 (some 0) 0), (.slc none 0 (some 0) 0), (.slc none 0 (some 0) 0), (.slc none 0 (some 0) 0), (.slc none 0 (some 0) 0), (.int .i64 0), (.slc none 0 (some 0) 0), (.int .i64 0), (.int .i64 0)], true⟩ := rfl
@[go_sem] theorem T_165 : T 165 = some ⟨.func, 1, 8, [.nilFn], false⟩ := rfl
@[go_sem] theorem T_166 : T 166 = some ⟨.func, 1, 8, [.nilFn], false⟩ := rfl
@[go_sem] theorem T_167 : T 167 = some ⟨(.slc 171), 1, 24, [(.slc none 0 (some 0) 0)], false⟩ := rfl
@[go_sem] theorem T_168 : T 168 = some ⟨.func, 1, 8, [.nilFn], false⟩ := rfl
@[go_sem] theorem T_169 : T 169 = some ⟨(.strct [(false, 3, 0), (false, 3, 1), (false, 3, 2), (false, 9, 3), (false, 42, 4)]), 5, 64, [(.int .i64 0), (.int .i64 0), (.int .i64 0), (.str []), (.slc none 0 (some 0) 0)], true⟩ := rfl
@[go_sem] theorem T_170 : T 170 = some ⟨(.strct [(false, 3, 0), (false, 3, 1), (false, 3, 2), (false, 9, 3), (false, 42, 4)]), 5, 64, [(.int .i64 0), (.int .i64 0), (.int .i64 0), (.str []), (.slc none 0 (some 0) 0)], true⟩ := rfl
@[go_sem] theorem T_171 : T 171 = some ⟨(.arr 2 3), 2, 16, [(.int .i64 0), (.int .i64 0)], false⟩ := rfl
@[go_sem] theorem T_172 : T 172 = some ⟨.func, 1, 8, [.nilFn], false⟩ := rfl
@[go_sem] theorem T_173 : T 173 = some ⟨(.ptr 5), 1, 8, [(.ptr none)], false⟩ := rfl
@[go_sem] theorem T_174 : T 174 = some ⟨.func, 1, 8, [.nilFn], false⟩ := rfl
@[go_sem] theorem T_175 : T 175 = some ⟨.func, 1, 8, [.nilFn], false⟩ := rfl
@[go_sem] theorem T_176 : T 176 = some ⟨(.slc 41), 1, 24, [(.slc none 0 (some 0) 0)], false⟩ := rfl
@[go_sem] theorem T_177 : T 177 = some ⟨.func, 1, 8, [.nilFn], false⟩ := rfl
@[go_sem] theorem T_178 : T 178 = some ⟨.func, 1, 8, [.nilFn], false⟩ := rfl
@[go_sem] theorem T_179 : T 179 = some ⟨.func, 1, 8, [.nilFn], false⟩ := rfl
@[go_sem] theorem T_180 : T 180 = some ⟨.func, 1, 8, [.nilFn], false⟩ := rfl
@[go_sem] theorem T_181 : T 181 = some ⟨.func, 1, 8, [.nilFn], false⟩ := rfl
@[go_sem] theorem T_182 : T 182 = some ⟨.func, 1, 8, [.nilFn], false⟩ := rfl
@[go_sem] theorem T_183 : T 183 = some ⟨.other, 1, 8, [(.ptr none)], false⟩ := rfl
@[go_sem] theorem T_184 : T 184 = some ⟨.func, 1, 8, [.nilFn], false⟩ := rfl
@[go_sem] theorem T_185 : T 185 = some ⟨(.map 9 4), 1, 8, [(.map none)], false⟩ := rfl
@[go_sem] theorem T_186 : T 186 = some ⟨.func, 1, 8, [.nilFn], false⟩ := rfl
@[go_sem] theorem T_187 : T 187 = some ⟨(.strct [(false, 17, 0), (false, 17, 1), (false, 17, 2), (false, 9, 3)]), 4, 40, [(.ptr none), (.ptr none), (.ptr none), (.str [])], false⟩ := rfl
@[go_sem] theorem T_188 : T 188 = some ⟨(.strct [(false, 17, 0), (false, 17, 1), (false, 17, 2), (false, 9, 3)]), 4, 40, [(.ptr none), (.ptr none), (.ptr none), (.str [])], false⟩ := rfl
@[go_sem] theorem T_189 : T 189 = some ⟨(.arr 0 16), 0, 0, [], false⟩ := rfl
@[go_sem] theorem T_190 : T 190 = some ⟨(.strct [(true, 189, 0)]), 0, 0, [], false⟩ := rfl
@[go_sem] theorem T_191 : T 191 = some ⟨(.strct [(true, 189, 0)]), 0, 0, [], false⟩ := rfl
@[go_sem] theorem T_192 : T 192 = some ⟨.func, 1, 8, [.nilFn], false⟩ := rfl
@[go_sem] theorem T_193 : T 193 = some ⟨(.int .u32), 1, 4, [(.int .u32 0)], false⟩ := rfl
@[go_sem] theorem T_194 : T 194 = some ⟨(.int .u8), 1, 1, [(.int .u8 0)], false⟩ := rfl
@[go_sem] theorem T_195 : T 195 = some ⟨(.int .u8), 1, 1, [(.int .u8 0)], false⟩ := rfl
@[go_sem] theorem T_196 : T 196 = some ⟨.func, 1, 8, [.nilFn], false⟩ := rfl
@[go_sem] theorem T_197 : T 197 = some ⟨(.int .i32), 1, 4, [(.int .i32 0)], false⟩ := rfl
@[go_sem] theorem T_198 : T 198 = some ⟨(.int .i32), 1, 4, [(.int .i32 0)], false⟩ := rfl
@[go_sem] theorem T_199 : T 199 = some ⟨(.strct [(false, 12, 0), (false, 12, 1), (false, 193, 2), (false, 194, 3), (false, 5, 4), (false, 5, 5), (false, 195, 6), (false, 196, 7), (false, 173, 8), (false, 197, 9), (false, 198, 10)]), 11, 48, [(.int .u64 0), (.int .u64 0), (.int .u32 0), (.int .u8 0), (.int .u8 0), (.int .u8 0), (.int .u8 0), .nilFn, (.ptr none), (.int .i32 0), (.int .i32 0)], false⟩ := rfl
@[go_sem] theorem T_200 : T 200 = some ⟨(.strct [(false, 12, 0), (false, 12, 1), (false, 193, 2), (false, 194, 3), (false, 5, 4), (false, 5, 5), (false, 195, 6), (false, 196, 7), (false, 173, 8), (false, 197, 9), (false, 198, 10)]), 11, 48, [(.int .u64 0), (.int .u64 0), (.int .u32 0), (.int .u8 0), (.int .u8 0), (.int .u8 0), (.int .u8 0), .nilFn, (.ptr none), (.int .i32 0), (.int .i32 0)], false⟩ := rfl
theorem F_2 : F 2 = some Try.f2 := rfl  -- gosem.cut.init
theorem F_3 : F 3 = some Try.f3 := rfl  -- lemmata/lemmatalaw8.PieceAll
theorem F_4 : F 4 = some Try.f4 := rfl  -- lemmata/lemmatalaw8.PieceMay
theorem F_5 : F 5 = some Try.f5 := rfl  -- lemmata/lemmatalaw8.PieceForms
theorem F_6 : F 6 = some Try.f6 := rfl  -- lemmata/lemmatalaw8.PieceBack
theorem F_7 : F 7 = some Try.f7 := rfl  -- lemmata/lemmatalaw11.GramAll
theorem F_8 : F 8 = some Try.f8 := rfl  -- lemmata/lemmatalaw11.GramOffset
theorem F_9 : F 9 = some Try.f9 := rfl  -- lemmata/lemmatalaw12.FirstAll
theorem F_10 : F 10 = some Try.f10 := rfl  -- lemmata/lemmatalaw12.FirstTrue
theorem F_11 : F 11 = some Try.f11 := rfl  -- lemmata/lemmatalaw12.FirstMore
theorem F_12 : F 12 = some Try.f12 := rfl  -- lemmata/lemmatalaw12.FirstRow
theorem F_13 : F 13 = some Try.f13 := rfl  -- lemmata/lemmatalaw13.LlAll
theorem F_14 : F 14 = some Try.f14 := rfl  -- lemmata/lemmatalaw13.LlClash
theorem F_15 : F 15 = some Try.f15 := rfl  -- lemmata/lemmatalaw13.LlNone
theorem F_16 : F 16 = some Try.f16 := rfl  -- lemmata/lemmatalaw8.begun
theorem F_17 : F 17 = some Try.f17 := rfl  -- lemmata/piece.Open
theorem F_18 : F 18 = some Try.f18 := rfl  -- lemmata/piece.Splice
theorem F_19 : F 19 = some Try.f19 := rfl  -- lemmata/lemmataref3.Splice
theorem F_20 : F 20 = some Try.f20 := rfl  -- lemmata/piece.Text
theorem F_21 : F 21 = some Try.f21 := rfl  -- lemmata/piece.Len
theorem F_22 : F 22 = some Try.f22 := rfl  -- lemmata/piece.May
theorem F_23 : F 23 = some Try.f23 := rfl  -- lemmata/lemmatalaw11.begun
theorem F_24 : F 24 = some Try.f24 := rfl  -- lemmata/lemmatalaw11.Light
theorem F_25 : F 25 = some Try.f25 := rfl  -- lemmata/lemmataplay.Made
theorem F_26 : F 26 = some Try.f26 := rfl  -- (*lemmata/lemmataplay.Picks).Grammar
theorem F_27 : F 27 = some Try.f27 := rfl  -- lemmata/lemmataplay.Sums
theorem F_28 : F 28 = some Try.f28 := rfl  -- lemmata/gram.May
theorem F_29 : F 29 = some Try.f29 := rfl  -- lemmata/lemmataref11.May
theorem F_30 : F 30 = some Try.f30 := rfl  -- lemmata/gram.Same
theorem F_31 : F 31 = some Try.f31 := rfl  -- lemmata/lemmataref11.Same
theorem F_32 : F 32 = some Try.f32 := rfl  -- lemmata/gram.Offset
theorem F_33 : F 33 = some Try.f33 := rfl  -- lemmata/lemmataref11.Offset
theorem F_34 : F 34 = some Try.f34 := rfl  -- lemmata/lemmatalaw12.begun
theorem F_35 : F 35 = some Try.f35 := rfl  -- lemmata/lemmataref11.Reckon
theorem F_36 : F 36 = some Try.f36 := rfl  -- lemmata/lemmatalaw12.sameRow
theorem F_37 : F 37 = some Try.f37 := rfl  -- lemmata/first.Nullable
theorem F_38 : F 38 = some Try.f38 := rfl  -- lemmata/lemmatalaw12.sameRows
theorem F_39 : F 39 = some Try.f39 := rfl  -- lemmata/first.First
theorem F_40 : F 40 = some Try.f40 := rfl  -- lemmata/first.Follow
theorem F_41 : F 41 = some Try.f41 := rfl  -- lemmata/first.Row
theorem F_42 : F 42 = some Try.f42 := rfl  -- (lemmata/lemmataref11.Sets).Row
theorem F_43 : F 43 = some Try.f43 := rfl  -- (*lemmata/lemmataplay.Picks).Leaves
theorem F_44 : F 44 = some Try.f44 := rfl  -- lemmata/lemmataref11.Table
theorem F_45 : F 45 = some Try.f45 := rfl  -- lemmata/lemmataref11.Parse
theorem F_46 : F 46 = some Try.f46 := rfl  -- lemmata/lemmatalaw12.stands
theorem F_47 : F 47 = some Try.f47 := rfl  -- (*lemmata/lemmataplay.Picks).Num
theorem F_48 : F 48 = some Try.f48 := rfl  -- lemmata/lemmatalaw12.within
theorem F_49 : F 49 = some Try.f49 := rfl  -- lemmata/lemmatalaw13.begun
theorem F_50 : F 50 = some Try.f50 := rfl  -- lemmata/ll.Table
theorem F_51 : F 51 = some Try.f51 := rfl  -- (lemmata/lemmataref11.Sets).Meant
theorem F_52 : F 52 = some Try.f52 := rfl  -- slices.Clone[[]lemmata/api.Piece,lemmata/api.Piece]
theorem F_53 : F 53 = some Try.f53 := rfl  -- lemmata/piece.cut
theorem F_54 : F 54 = some Try.f54 := rfl  -- lemmata/lemmataref3.MaySplice
theorem F_55 : F 55 = some Try.f55 := rfl  -- (lemmata/piece.Table).pieces
theorem F_56 : F 56 = some Try.f56 := rfl  -- (*strings.Builder).WriteString
theorem F_57 : F 57 = some Try.f57 := rfl  -- (*strings.Builder).String
theorem F_58 : F 58 = some Try.f58 := rfl  -- slices.ContainsFunc[[]lemmata/api.Piece,lemmata/api.Piece]
theorem F_59 : F 59 = some Try.f59 := rfl  -- lemmata/piece.May$1
theorem F_60 : F 60 = some Try.f60 := rfl  -- (lemmata/piece.Table).text
theorem F_61 : F 61 = some Try.f61 := rfl  -- (*lemmata/lemmataplay.Picks).rules
theorem F_62 : F 62 = some Try.f62 := rfl  -- lemmata/lemmataplay.con
theorem F_63 : F 63 = some Try.f63 := rfl  -- lemmata/lemmataplay.ref
theorem F_64 : F 64 = some Try.f64 := rfl  -- lemmata/lemmataplay.tok
theorem F_65 : F 65 = some Try.f65 := rfl  -- lemmata/gram.within[lemmata/api.Tok]
theorem F_66 : F 66 = some Try.f66 := rfl  -- lemmata/gram.within[lemmata/api.Nt]
theorem F_67 : F 67 = some Try.f67 := rfl  -- lemmata/gram.within[lemmata/api.Prod]
theorem F_68 : F 68 = some Try.f68 := rfl  -- slices.Concat[[]string,string]
theorem F_69 : F 69 = some Try.f69 := rfl  -- lemmata/gram.names
theorem F_70 : F 70 = some Try.f70 := rfl  -- slices.ContainsFunc[[]lemmata/api.Prod,lemmata/api.Prod]
theorem F_71 : F 71 = some Try.f71 := rfl  -- lemmata/gram.May$1
theorem F_72 : F 72 = some Try.f72 := rfl  -- lemmata/gram.prod
theorem F_73 : F 73 = some Try.f73 := rfl  -- lemmata/lemmataref11.unlike
theorem F_74 : F 74 = some Try.f74 := rfl  -- slices.Equal[[]lemmata/api.Tok,lemmata/api.Tok]
theorem F_75 : F 75 = some Try.f75 := rfl  -- slices.EqualFunc[[]lemmata/api.Nt,[]lemmata/api.Nt,lemmata/api.Nt,lemmata/api.Nt]
theorem F_76 : F 76 = some Try.f76 := rfl  -- lemmata/gram.Same$1
theorem F_77 : F 77 = some Try.f77 := rfl  -- slices.Equal[[]string,string]
theorem F_78 : F 78 = some Try.f78 := rfl  -- slices.EqualFunc[[]lemmata/api.Prod,[]lemmata/api.Prod,lemmata/api.Prod,lemmata/api.Prod]
theorem F_79 : F 79 = some Try.f79 := rfl  -- lemmata/gram.Same$2
theorem F_80 : F 80 = some Try.f80 := rfl  -- slices.Equal[[]lemmata/api.Sym,lemmata/api.Sym]
theorem F_81 : F 81 = some Try.f81 := rfl  -- lemmata/lemmataref11.sameNames
theorem F_82 : F 82 = some Try.f82 := rfl  -- lemmata/lemmataref11.SameRight
theorem F_83 : F 83 = some Try.f83 := rfl  -- (lemmata/lemmataref11.Sets).behind
theorem F_84 : F 84 = some Try.f84 := rfl  -- lemmata/first.grows
theorem F_85 : F 85 = some Try.f85 := rfl  -- lemmata/first.Nullable$1
theorem F_86 : F 86 = some Try.f86 := rfl  -- slices.ContainsFunc[[]lemmata/api.Sym,lemmata/api.Sym]
theorem F_87 : F 87 = some Try.f87 := rfl  -- lemmata/first.Nullable$1$1
theorem F_88 : F 88 = some Try.f88 := rfl  -- lemmata/first.set
theorem F_89 : F 89 = some Try.f89 := rfl  -- lemmata/first.sets
theorem F_90 : F 90 = some Try.f90 := rfl  -- lemmata/first.First$1
theorem F_91 : F 91 = some Try.f91 := rfl  -- lemmata/first.begins
theorem F_92 : F 92 = some Try.f92 := rfl  -- lemmata/first.union
theorem F_93 : F 93 = some Try.f93 := rfl  -- lemmata/first.Follow$1
theorem F_94 : F 94 = some Try.f94 := rfl  -- (*lemmata/lemmataplay.Picks).derive
theorem F_95 : F 95 = some Try.f95 := rfl  -- (*lemmata/lemmataref11.maker).symbol
theorem F_96 : F 96 = some Try.f96 := rfl  -- lemmata/lemmataref11.Leaves
theorem F_97 : F 97 = some Try.f97 := rfl  -- lemmata/lemmataref11.Spans
theorem F_98 : F 98 = some Try.f98 := rfl  -- (lemmata/piece.Table).pieces$1
theorem F_99 : F 99 = some Try.f99 := rfl  -- (*strings.Builder).copyCheck
theorem F_100 : F 100 = some Try.f100 := rfl  -- slices.IndexFunc[[]lemmata/api.Piece,lemmata/api.Piece]
theorem F_101 : F 101 = some Try.f101 := rfl  -- lemmata/lemmataref17.Count
theorem F_102 : F 102 = some Try.f102 := rfl  -- lemmata/lemmataref17.IsInh
theorem F_103 : F 103 = some Try.f103 := rfl  -- slices.Grow[[]string,string]
theorem F_104 : F 104 = some Try.f104 := rfl  -- lemmata/gram.unlike[string]
theorem F_105 : F 105 = some Try.f105 := rfl  -- slices.ContainsFunc[[]string,string]
theorem F_106 : F 106 = some Try.f106 := rfl  -- lemmata/gram.names$1
theorem F_107 : F 107 = some Try.f107 := rfl  -- lemmata/gram.name
theorem F_108 : F 108 = some Try.f108 := rfl  -- slices.IndexFunc[[]lemmata/api.Prod,lemmata/api.Prod]
theorem F_109 : F 109 = some Try.f109 := rfl  -- lemmata/gram.prod$1
theorem F_110 : F 110 = some Try.f110 := rfl  -- lemmata/gram.sym
theorem F_111 : F 111 = some Try.f111 := rfl  -- lemmata/lemmataref11.mayName
theorem F_112 : F 112 = some Try.f112 := rfl  -- slices.IndexFunc[[]lemmata/api.Sym,lemmata/api.Sym]
theorem F_113 : F 113 = some Try.f113 := rfl  -- lemmata/lemmataref11.Ends
theorem F_115 : F 115 = some Try.f115 := rfl  -- slices.IndexFunc[[]string,string]
end Go.Proofs.Ytaockkmmjinhpaa
