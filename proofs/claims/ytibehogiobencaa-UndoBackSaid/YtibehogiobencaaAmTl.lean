/-
  Types and functions of the program, one by one.
-/
import Derived.Test.YtibehogiobencaaAmY
import Derived.Test.YtibehogiobencaaAmTab
namespace Go.Proofs.Ytibehogiobencaa
open Go Go.Am
@[go_sem] theorem T_1 : T 1 = some ⟨.func, 1, 8, [.nilFn], false⟩ := rfl
@[go_sem] theorem T_2 : T 2 = some ⟨(.int .i64), 1, 8, [(.int .i64 0)], false⟩ := rfl
@[go_sem] theorem T_3 : T 3 = some ⟨(.int .i64), 1, 8, [(.int .i64 0)], false⟩ := rfl
@[go_sem] theorem T_4 : T 4 = some ⟨.bool, 1, 1, [(.bool false)], false⟩ := rfl
@[go_sem] theorem T_5 : T 5 = some ⟨(.int .u8), 1, 1, [(.int .u8 0)], false⟩ := rfl
@[go_sem] theorem T_6 : T 6 = some ⟨(.int .u8), 1, 1, [(.int .u8 0)], false⟩ := rfl
@[go_sem] theorem T_7 : T 7 = some ⟨(.strct [(false, 2, 0), (false, 3, 1), (false, 4, 2), (false, 6, 3)]), 4, 24, [(.int .i64 0), (.int .i64 0), (.bool false), (.int .u8 0)], true⟩ := rfl
@[go_sem] theorem T_8 : T 8 = some ⟨(.strct [(false, 2, 0), (false, 3, 1), (false, 4, 2), (false, 6, 3)]), 4, 24, [(.int .i64 0), (.int .i64 0), (.bool false), (.int .u8 0)], true⟩ := rfl
@[go_sem] theorem T_9 : T 9 = some ⟨.str, 1, 16, [(.str [])], false⟩ := rfl
@[go_sem] theorem T_10 : T 10 = some ⟨.str, 1, 16, [(.str [])], false⟩ := rfl
@[go_sem] theorem T_11 : T 11 = some ⟨.str, 1, 16, [(.str [])], false⟩ := rfl
@[go_sem] theorem T_12 : T 12 = some ⟨(.int .u64), 1, 8, [(.int .u64 0)], false⟩ := rfl
@[go_sem] theorem T_13 : T 13 = some ⟨(.strct [(false, 9, 0), (false, 12, 1)]), 2, 24, [(.str []), (.int .u64 0)], false⟩ := rfl
@[go_sem] theorem T_14 : T 14 = some ⟨(.strct [(false, 9, 0), (false, 12, 1)]), 2, 24, [(.str []), (.int .u64 0)], false⟩ := rfl
@[go_sem] theorem T_15 : T 15 = some ⟨(.ptr 122), 1, 8, [(.ptr none)], false⟩ := rfl
@[go_sem] theorem T_16 : T 16 = some ⟨(.ptr 125), 1, 8, [(.ptr none)], false⟩ := rfl
@[go_sem] theorem T_17 : T 17 = some ⟨(.ptr 134), 1, 8, [(.ptr none)], false⟩ := rfl
@[go_sem] theorem T_18 : T 18 = some ⟨(.strct [(false, 17, 0)]), 1, 8, [(.ptr none)], false⟩ := rfl
@[go_sem] theorem T_19 : T 19 = some ⟨(.strct [(false, 17, 0)]), 1, 8, [(.ptr none)], false⟩ := rfl
@[go_sem] theorem T_20 : T 20 = some ⟨.iface, 1, 16, [.nilIface], false⟩ := rfl
@[go_sem] theorem T_21 : T 21 = some ⟨(.int .i32), 1, 4, [(.int .i32 0)], false⟩ := rfl
@[go_sem] theorem T_22 : T 22 = some ⟨(.slc 5), 1, 24, [(.slc none 0 (some 0) 0)], false⟩ := rfl
@[go_sem] theorem T_23 : T 23 = some ⟨.func, 1, 8, [.nilFn], false⟩ := rfl
@[go_sem] theorem T_24 : T 24 = some ⟨(.slc 3), 1, 24, [(.slc none 0 (some 0) 0)], false⟩ := rfl
@[go_sem] theorem T_25 : T 25 = some ⟨(.strct [(false, 24, 0), (false, 24, 1)]), 2, 48, [(.slc none 0 (some 0) 0), (.slc none 0 (some 0) 0)], true⟩ := rfl
@[go_sem] theorem T_26 : T 26 = some ⟨(.strct [(false, 24, 0), (false, 24, 1)]), 2, 48, [(.slc none 0 (some 0) 0), (.slc none 0 (some 0) 0)], true⟩ := rfl
@[go_sem] theorem T_27 : T 27 = some ⟨.func, 1, 8, [.nilFn], false⟩ := rfl
@[go_sem] theorem T_29 : T 29 = some ⟨.func, 1, 8, [.nilFn], false⟩ := rfl
@[go_sem] theorem T_30 : T 30 = some ⟨.func, 1, 8, [.nilFn], false⟩ := rfl
@[go_sem] theorem T_31 : T 31 = some ⟨.func, 1, 8, [.nilFn], false⟩ := rfl
@[go_sem] theorem T_32 : T 32 = some ⟨.func, 1, 8, [.nilFn], false⟩ := rfl
@[go_sem] theorem T_33 : T 33 = some ⟨(.slc 39), 1, 24, [(.slc none 0 (some 0) 0)], false⟩ := rfl
@[go_sem] theorem T_34 : T 34 = some ⟨(.slc 49), 1, 24, [(.slc none 0 (some 0) 0)], false⟩ := rfl
@[go_sem] theorem T_35 : T 35 = some ⟨(.strct [(false, 9, 0), (false, 9, 1), (false, 34, 2)]), 3, 56, [(.str []), (.str []), (.slc none 0 (some 0) 0)], true⟩ := rfl
@[go_sem] theorem T_36 : T 36 = some ⟨(.strct [(false, 9, 0), (false, 9, 1), (false, 34, 2)]), 3, 56, [(.str []), (.str []), (.slc none 0 (some 0) 0)], true⟩ := rfl
@[go_sem] theorem T_37 : T 37 = some ⟨.func, 1, 8, [.nilFn], false⟩ := rfl
@[go_sem] theorem T_38 : T 38 = some ⟨(.strct [(false, 3, 0), (false, 3, 1), (false, 9, 2)]), 3, 32, [(.int .i64 0), (.int .i64 0), (.str [])], true⟩ := rfl
@[go_sem] theorem T_39 : T 39 = some ⟨(.strct [(false, 3, 0), (false, 3, 1), (false, 9, 2)]), 3, 32, [(.int .i64 0), (.int .i64 0), (.str [])], true⟩ := rfl
@[go_sem] theorem T_41 : T 41 = some ⟨.func, 1, 8, [.nilFn], false⟩ := rfl
@[go_sem] theorem T_43 : T 43 = some ⟨.func, 1, 8, [.nilFn], false⟩ := rfl
@[go_sem] theorem T_44 : T 44 = some ⟨.func, 1, 8, [.nilFn], false⟩ := rfl
@[go_sem] theorem T_45 : T 45 = some ⟨.func, 1, 8, [.nilFn], false⟩ := rfl
@[go_sem] theorem T_46 : T 46 = some ⟨.func, 1, 8, [.nilFn], false⟩ := rfl
@[go_sem] theorem T_47 : T 47 = some ⟨.func, 1, 8, [.nilFn], false⟩ := rfl
@[go_sem] theorem T_48 : T 48 = some ⟨(.strct [(false, 4, 0), (false, 3, 1), (false, 3, 2)]), 3, 24, [(.bool false), (.int .i64 0), (.int .i64 0)], true⟩ := rfl
@[go_sem] theorem T_49 : T 49 = some ⟨(.strct [(false, 4, 0), (false, 3, 1), (false, 3, 2)]), 3, 24, [(.bool false), (.int .i64 0), (.int .i64 0)], true⟩ := rfl
@[go_sem] theorem T_50 : T 50 = some ⟨.func, 1, 8, [.nilFn], false⟩ := rfl
@[go_sem] theorem T_51 : T 51 = some ⟨(.slc 9), 1, 24, [(.slc none 0 (some 0) 0)], false⟩ := rfl
@[go_sem] theorem T_52 : T 52 = some ⟨(.slc 53), 1, 24, [(.slc none 0 (some 0) 0)], false⟩ := rfl
@[go_sem] theorem T_53 : T 53 = some ⟨(.arr 3 5), 3, 3, [(.int .u8 0), (.int .u8 0), (.int .u8 0)], false⟩ := rfl
@[go_sem] theorem T_54 : T 54 = some ⟨.func, 1, 8, [.nilFn], false⟩ := rfl
@[go_sem] theorem T_55 : T 55 = some ⟨(.ptr 92), 1, 8, [(.ptr none)], false⟩ := rfl
@[go_sem] theorem T_56 : T 56 = some ⟨.func, 1, 8, [.nilFn], false⟩ := rfl
@[go_sem] theorem T_57 : T 57 = some ⟨.func, 1, 8, [.nilFn], false⟩ := rfl
@[go_sem] theorem T_58 : T 58 = some ⟨(.slc 65), 1, 24, [(.slc none 0 (some 0) 0)], false⟩ := rfl
@[go_sem] theorem T_60 : T 60 = some ⟨.func, 1, 8, [.nilFn], false⟩ := rfl
@[go_sem] theorem T_61 : T 61 = some ⟨.func, 1, 8, [.nilFn], false⟩ := rfl
@[go_sem] theorem T_62 : T 62 = some ⟨.func, 1, 8, [.nilFn], false⟩ := rfl
@[go_sem] theorem T_63 : T 63 = some ⟨(.slc 67), 1, 24, [(.slc none 0 (some 0) 0)], false⟩ := rfl
@[go_sem] theorem T_64 : T 64 = some ⟨(.strct [(false, 3, 0), (false, 63, 1)]), 2, 32, [(.int .i64 0), (.slc none 0 (some 0) 0)], true⟩ := rfl
@[go_sem] theorem T_65 : T 65 = some ⟨(.strct [(false, 3, 0), (false, 63, 1)]), 2, 32, [(.int .i64 0), (.slc none 0 (some 0) 0)], true⟩ := rfl
@[go_sem] theorem T_66 : T 66 = some ⟨(.strct [(false, 5, 0), (false, 5, 1)]), 2, 2, [(.int .u8 0), (.int .u8 0)], true⟩ := rfl
@[go_sem] theorem T_67 : T 67 = some ⟨(.strct [(false, 5, 0), (false, 5, 1)]), 2, 2, [(.int .u8 0), (.int .u8 0)], true⟩ := rfl
@[go_sem] theorem T_68 : T 68 = some ⟨.func, 1, 8, [.nilFn], false⟩ := rfl
@[go_sem] theorem T_69 : T 69 = some ⟨.func, 1, 8, [.nilFn], false⟩ := rfl
@[go_sem] theorem T_70 : T 70 = some ⟨.func, 1, 8, [.nilFn], false⟩ := rfl
@[go_sem] theorem T_72 : T 72 = some ⟨.func, 1, 8, [.nilFn], false⟩ := rfl
@[go_sem] theorem T_73 : T 73 = some ⟨.func, 1, 8, [.nilFn], false⟩ := rfl
@[go_sem] theorem T_74 : T 74 = some ⟨.func, 1, 8, [.nilFn], false⟩ := rfl
@[go_sem] theorem T_76 : T 76 = some ⟨.func, 1, 8, [.nilFn], false⟩ := rfl
@[go_sem] theorem T_77 : T 77 = some ⟨.func, 1, 8, [.nilFn], false⟩ := rfl
@[go_sem] theorem T_78 : T 78 = some ⟨(.ptr 80), 1, 8, [(.ptr none)], false⟩ := rfl
@[go_sem] theorem T_79 : T 79 = some ⟨(.strct [(false, 78, 0), (false, 22, 1)]), 2, 32, [(.ptr none), (.slc none 0 (some 0) 0)], true⟩ := rfl
@[go_sem] theorem T_80 : T 80 = some ⟨(.strct [(false, 78, 0), (false, 22, 1)]), 2, 32, [(.ptr none), (.slc none 0 (some 0) 0)], true⟩ := rfl
@[go_sem] theorem T_81 : T 81 = some ⟨.func, 1, 8, [.nilFn], false⟩ := rfl
@[go_sem] theorem T_82 : T 82 = some ⟨.func, 1, 8, [.nilFn], false⟩ := rfl
@[go_sem] theorem T_83 : T 83 = some ⟨.func, 1, 8, [.nilFn], false⟩ := rfl
@[go_sem] theorem T_84 : T 84 = some ⟨.iface, 1, 16, [.nilIface], false⟩ := rfl
@[go_sem] theorem T_85 : T 85 = some ⟨.iface, 1, 16, [.nilIface], false⟩ := rfl
@[go_sem] theorem T_87 : T 87 = some ⟨.func, 1, 8, [.nilFn], false⟩ := rfl
@[go_sem] theorem T_88 : T 88 = some ⟨.func, 1, 8, [.nilFn], false⟩ := rfl
@[go_sem] theorem T_89 : T 89 = some ⟨.func, 1, 8, [.nilFn], false⟩ := rfl
@[go_sem] theorem T_90 : T 90 = some ⟨.func, 1, 8, [.nilFn], false⟩ := rfl
@[go_sem] theorem T_91 : T 91 = some ⟨(.strct [(false, 22, 0), (false, 3, 1)]), 2, 32, [(.slc none 0 (some 0) 0), (.int .i64 0)], true⟩ := rfl
@[go_sem] theorem T_92 : T 92 = some ⟨(.strct [(false, 22, 0), (false, 3, 1)]), 2, 32, [(.slc none 0 (some 0) 0), (.int .i64 0)], true⟩ := rfl
@[go_sem] theorem T_93 : T 93 = some ⟨.func, 1, 8, [.nilFn], false⟩ := rfl
@[go_sem] theorem T_94 : T 94 = some ⟨(.ptr 96), 1, 8, [(.ptr none)], false⟩ := rfl
@[go_sem] theorem T_95 : T 95 = some ⟨(.strct [(false, 9, 0), (false, 3, 1), (false, 58, 2)]), 3, 48, [(.str []), (.int .i64 0), (.slc none 0 (some 0) 0)], true⟩ := rfl
@[go_sem] theorem T_96 : T 96 = some ⟨(.strct [(false, 9, 0), (false, 3, 1), (false, 58, 2)]), 3, 48, [(.str []), (.int .i64 0), (.slc none 0 (some 0) 0)], true⟩ := rfl
@[go_sem] theorem T_97 : T 97 = some ⟨.func, 1, 8, [.nilFn], false⟩ := rfl
@[go_sem] theorem T_98 : T 98 = some ⟨(.ptr 100), 1, 8, [(.ptr none)], false⟩ := rfl
@[go_sem] theorem T_99 : T 99 = some ⟨(.strct [(false, 9, 0), (false, 3, 1), (false, 4, 2)]), 3, 32, [(.str []), (.int .i64 0), (.bool false)], true⟩ := rfl
@[go_sem] theorem T_100 : T 100 = some ⟨(.strct [(false, 9, 0), (false, 3, 1), (false, 4, 2)]), 3, 32, [(.str []), (.int .i64 0), (.bool false)], true⟩ := rfl
@[go_sem] theorem T_101 : T 101 = some ⟨.func, 1, 8, [.nilFn], false⟩ := rfl
@[go_sem] theorem T_102 : T 102 = some ⟨.func, 1, 8, [.nilFn], false⟩ := rfl
@[go_sem] theorem T_103 : T 103 = some ⟨.func, 1, 8, [.nilFn], false⟩ := rfl
@[go_sem] theorem T_104 : T 104 = some ⟨(.ptr 5), 1, 8, [(.ptr none)], false⟩ := rfl
@[go_sem] theorem T_105 : T 105 = some ⟨.func, 1, 8, [.nilFn], false⟩ := rfl
@[go_sem] theorem T_106 : T 106 = some ⟨.func, 1, 8, [.nilFn], false⟩ := rfl
@[go_sem] theorem T_107 : T 107 = some ⟨.func, 1, 8, [.nilFn], false⟩ := rfl
@[go_sem] theorem T_108 : T 108 = some ⟨.func, 1, 8, [.nilFn], false⟩ := rfl
@[go_sem] theorem T_109 : T 109 = some ⟨.other, 1, 8, [(.ptr none)], false⟩ := rfl
@[go_sem] theorem T_110 : T 110 = some ⟨.func, 1, 8, [.nilFn], false⟩ := rfl
@[go_sem] theorem T_112 : T 112 = some ⟨.func, 1, 8, [.nilFn], false⟩ := rfl
@[go_sem] theorem T_113 : T 113 = some ⟨.func, 1, 8, [.nilFn], false⟩ := rfl
@[go_sem] theorem T_114 : T 114 = some ⟨.func, 1, 8, [.nilFn], false⟩ := rfl
@[go_sem] theorem T_115 : T 115 = some ⟨.func, 1, 8, [.nilFn], false⟩ := rfl
@[go_sem] theorem T_116 : T 116 = some ⟨.func, 1, 8, [.nilFn], false⟩ := rfl
@[go_sem] theorem T_117 : T 117 = some ⟨.func, 1, 8, [.nilFn], false⟩ := rfl
@[go_sem] theorem T_118 : T 118 = some ⟨.func, 1, 8, [.nilFn], false⟩ := rfl
@[go_sem] theorem T_119 : T 119 = some ⟨.func, 1, 8, [.nilFn], false⟩ := rfl
@[go_sem] theorem T_120 : T 120 = some ⟨.func, 1, 8, [.nilFn], false⟩ := rfl
@[go_sem] theorem T_121 : T 121 = some ⟨(.strct [(false, 17, 0), (false, 17, 1), (false, 17, 2), (false, 9, 3)]), 4, 40, [(.ptr none), (.ptr none), (.ptr none), (.str [])], false⟩ := rfl
@[go_sem] theorem T_122 : T 122 = some ⟨(.strct [(false, 17, 0), (false, 17, 1), (false, 17, 2), (false, 9, 3)]), 4, 40, [(.ptr none), (.ptr none), (.ptr none), (.str [])], false⟩ := rfl
@[go_sem] theorem T_123 : T 123 = some ⟨(.arr 0 16), 0, 0, [], false⟩ := rfl
@[go_sem] theorem T_124 : T 124 = some ⟨(.strct [(true, 123, 0)]), 0, 0, [], false⟩ := rfl
@[go_sem] theorem T_125 : T 125 = some ⟨(.strct [(true, 123, 0)]), 0, 0, [], false⟩ := rfl
@[go_sem] theorem T_126 : T 126 = some ⟨.func, 1, 8, [.nilFn], false⟩ := rfl
@[go_sem] theorem T_127 : T 127 = some ⟨(.int .u32), 1, 4, [(.int .u32 0)], false⟩ := rfl
@[go_sem] theorem T_128 : T 128 = some ⟨(.int .u8), 1, 1, [(.int .u8 0)], false⟩ := rfl
@[go_sem] theorem T_129 : T 129 = some ⟨(.int .u8), 1, 1, [(.int .u8 0)], false⟩ := rfl
@[go_sem] theorem T_130 : T 130 = some ⟨.func, 1, 8, [.nilFn], false⟩ := rfl
@[go_sem] theorem T_131 : T 131 = some ⟨(.int .i32), 1, 4, [(.int .i32 0)], false⟩ := rfl
@[go_sem] theorem T_132 : T 132 = some ⟨(.int .i32), 1, 4, [(.int .i32 0)], false⟩ := rfl
@[go_sem] theorem T_133 : T 133 = some ⟨(.strct [(false, 12, 0), (false, 12, 1), (false, 127, 2), (false, 128, 3), (false, 5, 4), (false, 5, 5), (false, 129, 6), (false, 130, 7), (false, 104, 8), (false, 131, 9), (false, 132, 10)]), 11, 48, [(.int .u64 0), (.int .u64 0), (.int .u32 0), (.int .u8 0), (.int .u8 0), (.int .u8 0), (.int .u8 0), .nilFn, (.ptr none), (.int .i32 0), (.int .i32 0)], false⟩ := rfl
@[go_sem] theorem T_134 : T 134 = some ⟨(.strct [(false, 12, 0), (false, 12, 1), (false, 127, 2), (false, 128, 3), (false, 5, 4), (false, 5, 5), (false, 129, 6), (false, 130, 7), (false, 104, 8), (false, 131, 9), (false, 132, 10)]), 11, 48, [(.int .u64 0), (.int .u64 0), (.int .u32 0), (.int .u8 0), (.int .u8 0), (.int .u8 0), (.int .u8 0), .nilFn, (.ptr none), (.int .i32 0), (.int .i32 0)], false⟩ := rfl
theorem F_2 : F 2 = some Try.f2 := rfl  -- gosem.cut.init
theorem F_3 : F 3 = some Try.f3 := rfl  -- lemmata/lemmatalaw10.UndoAll
theorem F_4 : F 4 = some Try.f4 := rfl  -- lemmata/lemmatalaw10.UndoForms
theorem F_5 : F 5 = some Try.f5 := rfl  -- lemmata/lemmatalaw10.UndoBack
theorem F_6 : F 6 = some Try.f6 := rfl  -- lemmata/lemmatalaw8.PieceAll
theorem F_7 : F 7 = some Try.f7 := rfl  -- lemmata/lemmatalaw8.PieceMay
theorem F_8 : F 8 = some Try.f8 := rfl  -- lemmata/lemmatalaw8.PieceForms
theorem F_9 : F 9 = some Try.f9 := rfl  -- lemmata/lemmatalaw8.PieceBack
theorem F_10 : F 10 = some Try.f10 := rfl  -- lemmata/lemmatalaw3.RexAll
theorem F_11 : F 11 = some Try.f11 := rfl  -- lemmata/lemmatalaw3.RexCount
theorem F_12 : F 12 = some Try.f12 := rfl  -- lemmata/lemmatalaw3.RexForms
theorem F_13 : F 13 = some Try.f13 := rfl  -- lemmata/lemmatalaw3.RexRound
theorem F_14 : F 14 = some Try.f14 := rfl  -- lemmata/lemmatalaw10.begun
theorem F_15 : F 15 = some Try.f15 := rfl  -- lemmata/undo.Do
theorem F_16 : F 16 = some Try.f16 := rfl  -- lemmata/undo.Undo
theorem F_17 : F 17 = some Try.f17 := rfl  -- lemmata/undo.Redo
theorem F_18 : F 18 = some Try.f18 := rfl  -- lemmata/lemmataref3.SameInts
theorem F_19 : F 19 = some Try.f19 := rfl  -- lemmata/lemmatalaw8.begun
theorem F_20 : F 20 = some Try.f20 := rfl  -- lemmata/piece.Open
theorem F_21 : F 21 = some Try.f21 := rfl  -- lemmata/piece.Splice
theorem F_22 : F 22 = some Try.f22 := rfl  -- lemmata/lemmataref3.Splice
theorem F_23 : F 23 = some Try.f23 := rfl  -- lemmata/piece.Text
theorem F_24 : F 24 = some Try.f24 := rfl  -- lemmata/piece.Len
theorem F_25 : F 25 = some Try.f25 := rfl  -- lemmata/piece.May
theorem F_26 : F 26 = some Try.f26 := rfl  -- lemmata/lemmatalaw3.begun
theorem F_27 : F 27 = some Try.f27 := rfl  -- lemmata/lemmataplay.Made
theorem F_28 : F 28 = some Try.f28 := rfl  -- (*lemmata/lemmataplay.Picks).Rex
theorem F_29 : F 29 = some Try.f29 := rfl  -- lemmata/rex.Parse
theorem F_30 : F 30 = some Try.f30 := rfl  -- lemmata/lemmataref3.Parse
theorem F_31 : F 31 = some Try.f31 := rfl  -- lemmata/lemmataref3.SameItems
theorem F_32 : F 32 = some Try.f32 := rfl  -- lemmata/undo.push[int]
theorem F_33 : F 33 = some Try.f33 := rfl  -- lemmata/undo.pop[int]
theorem F_34 : F 34 = some Try.f34 := rfl  -- lemmata/undo.twin
theorem F_35 : F 35 = some Try.f35 := rfl  -- slices.Clone[[]lemmata/api.Piece,lemmata/api.Piece]
theorem F_36 : F 36 = some Try.f36 := rfl  -- lemmata/piece.cut
theorem F_37 : F 37 = some Try.f37 := rfl  -- lemmata/lemmataref3.MaySplice
theorem F_38 : F 38 = some Try.f38 := rfl  -- (lemmata/piece.Table).pieces
theorem F_39 : F 39 = some Try.f39 := rfl  -- (*strings.Builder).WriteString
theorem F_40 : F 40 = some Try.f40 := rfl  -- (*strings.Builder).String
theorem F_41 : F 41 = some Try.f41 := rfl  -- slices.ContainsFunc[[]lemmata/api.Piece,lemmata/api.Piece]
theorem F_42 : F 42 = some Try.f42 := rfl  -- lemmata/piece.May$1
theorem F_43 : F 43 = some Try.f43 := rfl  -- (lemmata/piece.Table).text
theorem F_44 : F 44 = some Try.f44 := rfl  -- (*lemmata/lemmataplay.Picks).Num
theorem F_45 : F 45 = some Try.f45 := rfl  -- (*lemmata/rex.reader).pattern
theorem F_46 : F 46 = some Try.f46 := rfl  -- (*lemmata/lemmataref3.reader).alt
theorem F_47 : F 47 = some Try.f47 := rfl  -- slices.Clone[[]int,int]
theorem F_48 : F 48 = some Try.f48 := rfl  -- (lemmata/piece.Table).pieces$1
theorem F_49 : F 49 = some Try.f49 := rfl  -- (*strings.Builder).copyCheck
theorem F_50 : F 50 = some Try.f50 := rfl  -- slices.IndexFunc[[]lemmata/api.Piece,lemmata/api.Piece]
theorem F_51 : F 51 = some Try.f51 := rfl  -- (*lemmata/rex.reader).row
theorem F_52 : F 52 = some Try.f52 := rfl  -- (*lemmata/rex.reader).takes
theorem F_53 : F 53 = some Try.f53 := rfl  -- (*lemmata/rex.reader).puts
theorem F_54 : F 54 = some Try.f54 := rfl  -- (*lemmata/lemmataref3.reader).join
theorem F_55 : F 55 = some Try.f55 := rfl  -- (*lemmata/lemmataref3.reader).peek
theorem F_57 : F 57 = some Try.f57 := rfl  -- (*lemmata/rex.reader).many
theorem F_58 : F 58 = some Try.f58 := rfl  -- (*lemmata/rex.reader).next
theorem F_59 : F 59 = some Try.f59 := rfl  -- (*lemmata/lemmataref3.reader).many
theorem F_60 : F 60 = some Try.f60 := rfl  -- (*lemmata/rex.reader).atom
theorem F_61 : F 61 = some Try.f61 := rfl  -- (*lemmata/lemmataref3.reader).atom
theorem F_62 : F 62 = some Try.f62 := rfl  -- (*lemmata/rex.reader).class
theorem F_63 : F 63 = some Try.f63 := rfl  -- (*lemmata/rex.reader).sign
theorem F_64 : F 64 = some Try.f64 := rfl  -- (*lemmata/lemmataref3.reader).class
theorem F_65 : F 65 = some Try.f65 := rfl  -- (*lemmata/lemmataref3.reader).one
theorem F_66 : F 66 = some Try.f66 := rfl  -- (*lemmata/rex.reader).ranges
theorem F_67 : F 67 = some Try.f67 := rfl  -- strings.IndexByte
theorem F_68 : F 68 = some Try.f68 := rfl  -- lemmata/lemmataref3.special
theorem F_69 : F 69 = some Try.f69 := rfl  -- (*lemmata/rex.reader).ranges$1
theorem F_70 : F 70 = some Try.f70 := rfl  -- internal/stringslite.IndexByte
theorem F_71 : F 71 = some Try.f71 := rfl  -- internal/bytealg.IndexByteString
end Go.Proofs.Ytibehogiobencaa
