/-
  The tables of types and functions of the program, as the abstract machine takes them.
-/
import Derived.Test.YtibehogiobencaaProg
import Derived.Test.YtibehogiobencaaAmP
import Derived.KernelRfl
namespace Go.Proofs.Ytibehogiobencaa
open Go.Am
set_option maxRecDepth 100000
def tblT : List (Option TI) := [
  none,  -- 0
  some ⟨.func, 1, 8, [.nilFn], false⟩,  -- 1
  some ⟨(.int .i64), 1, 8, [(.int .i64 0)], false⟩,  -- 2
  some ⟨(.int .i64), 1, 8, [(.int .i64 0)], false⟩,  -- 3
  some ⟨.bool, 1, 1, [(.bool false)], false⟩,  -- 4
  some ⟨(.int .u8), 1, 1, [(.int .u8 0)], false⟩,  -- 5
  some ⟨(.int .u8), 1, 1, [(.int .u8 0)], false⟩,  -- 6
  some ⟨(.strct [(false, 2, 0), (false, 3, 1), (false, 4, 2), (false, 6, 3)]), 4, 24, [(.int .i64 0), (.int .i64 0), (.bool false), (.int .u8 0)], true⟩,  -- 7
  some ⟨(.strct [(false, 2, 0), (false, 3, 1), (false, 4, 2), (false, 6, 3)]), 4, 24, [(.int .i64 0), (.int .i64 0), (.bool false), (.int .u8 0)], true⟩,  -- 8
  some ⟨.str, 1, 16, [(.str [])], false⟩,  -- 9
  some ⟨.str, 1, 16, [(.str [])], false⟩,  -- 10
  some ⟨.str, 1, 16, [(.str [])], false⟩,  -- 11
  some ⟨(.int .u64), 1, 8, [(.int .u64 0)], false⟩,  -- 12
  some ⟨(.strct [(false, 9, 0), (false, 12, 1)]), 2, 24, [(.str []), (.int .u64 0)], false⟩,  -- 13
  some ⟨(.strct [(false, 9, 0), (false, 12, 1)]), 2, 24, [(.str []), (.int .u64 0)], false⟩,  -- 14
  some ⟨(.ptr 122), 1, 8, [(.ptr none)], false⟩,  -- 15
  some ⟨(.ptr 125), 1, 8, [(.ptr none)], false⟩,  -- 16
  some ⟨(.ptr 134), 1, 8, [(.ptr none)], false⟩,  -- 17
  some ⟨(.strct [(false, 17, 0)]), 1, 8, [(.ptr none)], false⟩,  -- 18
  some ⟨(.strct [(false, 17, 0)]), 1, 8, [(.ptr none)], false⟩,  -- 19
  some ⟨.iface, 1, 16, [.nilIface], false⟩,  -- 20
  some ⟨(.int .i32), 1, 4, [(.int .i32 0)], false⟩,  -- 21
  some ⟨(.slc 5), 1, 24, [(.slc none 0 (some 0) 0)], false⟩,  -- 22
  some ⟨.func, 1, 8, [.nilFn], false⟩,  -- 23
  some ⟨(.slc 3), 1, 24, [(.slc none 0 (some 0) 0)], false⟩,  -- 24
  some ⟨(.strct [(false, 24, 0), (false, 24, 1)]), 2, 48, [(.slc none 0 (some 0) 0), (.slc none 0 (some 0) 0)], true⟩,  -- 25
  some ⟨(.strct [(false, 24, 0), (false, 24, 1)]), 2, 48, [(.slc none 0 (some 0) 0), (.slc none 0 (some 0) 0)], true⟩,  -- 26
  some ⟨.func, 1, 8, [.nilFn], false⟩,  -- 27
  none,  -- 28
  some ⟨.func, 1, 8, [.nilFn], false⟩,  -- 29
  some ⟨.func, 1, 8, [.nilFn], false⟩,  -- 30
  some ⟨.func, 1, 8, [.nilFn], false⟩,  -- 31
  some ⟨.func, 1, 8, [.nilFn], false⟩,  -- 32
  some ⟨(.slc 39), 1, 24, [(.slc none 0 (some 0) 0)], false⟩,  -- 33
  some ⟨(.slc 49), 1, 24, [(.slc none 0 (some 0) 0)], false⟩,  -- 34
  some ⟨(.strct [(false, 9, 0), (false, 9, 1), (false, 34, 2)]), 3, 56, [(.str []), (.str []), (.slc none 0 (some 0) 0)], true⟩,  -- 35
  some ⟨(.strct [(false, 9, 0), (false, 9, 1), (false, 34, 2)]), 3, 56, [(.str []), (.str []), (.slc none 0 (some 0) 0)], true⟩,  -- 36
  some ⟨.func, 1, 8, [.nilFn], false⟩,  -- 37
  some ⟨(.strct [(false, 3, 0), (false, 3, 1), (false, 9, 2)]), 3, 32, [(.int .i64 0), (.int .i64 0), (.str [])], true⟩,  -- 38
  some ⟨(.strct [(false, 3, 0), (false, 3, 1), (false, 9, 2)]), 3, 32, [(.int .i64 0), (.int .i64 0), (.str [])], true⟩,  -- 39
  none,  -- 40
  some ⟨.func, 1, 8, [.nilFn], false⟩,  -- 41
  none,  -- 42
  some ⟨.func, 1, 8, [.nilFn], false⟩,  -- 43
  some ⟨.func, 1, 8, [.nilFn], false⟩,  -- 44
  some ⟨.func, 1, 8, [.nilFn], false⟩,  -- 45
  some ⟨.func, 1, 8, [.nilFn], false⟩,  -- 46
  some ⟨.func, 1, 8, [.nilFn], false⟩,  -- 47
  some ⟨(.strct [(false, 4, 0), (false, 3, 1), (false, 3, 2)]), 3, 24, [(.bool false), (.int .i64 0), (.int .i64 0)], true⟩,  -- 48
  some ⟨(.strct [(false, 4, 0), (false, 3, 1), (false, 3, 2)]), 3, 24, [(.bool false), (.int .i64 0), (.int .i64 0)], true⟩,  -- 49
  some ⟨.func, 1, 8, [.nilFn], false⟩,  -- 50
  some ⟨(.slc 9), 1, 24, [(.slc none 0 (some 0) 0)], false⟩,  -- 51
  some ⟨(.slc 53), 1, 24, [(.slc none 0 (some 0) 0)], false⟩,  -- 52
  some ⟨(.arr 3 5), 3, 3, [(.int .u8 0), (.int .u8 0), (.int .u8 0)], false⟩,  -- 53
  some ⟨.func, 1, 8, [.nilFn], false⟩,  -- 54
  some ⟨(.ptr 92), 1, 8, [(.ptr none)], false⟩,  -- 55
  some ⟨.func, 1, 8, [.nilFn], false⟩,  -- 56
  some ⟨.func, 1, 8, [.nilFn], false⟩,  -- 57
  some ⟨(.slc 65), 1, 24, [(.slc none 0 (some 0) 0)], false⟩,  -- 58
  none,  -- 59
  some ⟨.func, 1, 8, [.nilFn], false⟩,  -- 60
  some ⟨.func, 1, 8, [.nilFn], false⟩,  -- 61
  some ⟨.func, 1, 8, [.nilFn], false⟩,  -- 62
  some ⟨(.slc 67), 1, 24, [(.slc none 0 (some 0) 0)], false⟩,  -- 63
  some ⟨(.strct [(false, 3, 0), (false, 63, 1)]), 2, 32, [(.int .i64 0), (.slc none 0 (some 0) 0)], true⟩,  -- 64
  some ⟨(.strct [(false, 3, 0), (false, 63, 1)]), 2, 32, [(.int .i64 0), (.slc none 0 (some 0) 0)], true⟩,  -- 65
  some ⟨(.strct [(false, 5, 0), (false, 5, 1)]), 2, 2, [(.int .u8 0), (.int .u8 0)], true⟩,  -- 66
  some ⟨(.strct [(false, 5, 0), (false, 5, 1)]), 2, 2, [(.int .u8 0), (.int .u8 0)], true⟩,  -- 67
  some ⟨.func, 1, 8, [.nilFn], false⟩,  -- 68
  some ⟨.func, 1, 8, [.nilFn], false⟩,  -- 69
  some ⟨.func, 1, 8, [.nilFn], false⟩,  -- 70
  none,  -- 71
  some ⟨.func, 1, 8, [.nilFn], false⟩,  -- 72
  some ⟨.func, 1, 8, [.nilFn], false⟩,  -- 73
  some ⟨.func, 1, 8, [.nilFn], false⟩,  -- 74
  none,  -- 75
  some ⟨.func, 1, 8, [.nilFn], false⟩,  -- 76
  some ⟨.func, 1, 8, [.nilFn], false⟩,  -- 77
  some ⟨(.ptr 80), 1, 8, [(.ptr none)], false⟩,  -- 78
  some ⟨(.strct [(false, 78, 0), (false, 22, 1)]), 2, 32, [(.ptr none), (.slc none 0 (some 0) 0)], true⟩,  -- 79
  some ⟨(.strct [(false, 78, 0), (false, 22, 1)]), 2, 32, [(.ptr none), (.slc none 0 (some 0) 0)], true⟩,  -- 80
  some ⟨.func, 1, 8, [.nilFn], false⟩,  -- 81
  some ⟨.func, 1, 8, [.nilFn], false⟩,  -- 82
  some ⟨.func, 1, 8, [.nilFn], false⟩,  -- 83
  some ⟨.iface, 1, 16, [.nilIface], false⟩,  -- 84
  some ⟨.iface, 1, 16, [.nilIface], false⟩,  -- 85
  none,  -- 86
  some ⟨.func, 1, 8, [.nilFn], false⟩,  -- 87
  some ⟨.func, 1, 8, [.nilFn], false⟩,  -- 88
  some ⟨.func, 1, 8, [.nilFn], false⟩,  -- 89
  some ⟨.func, 1, 8, [.nilFn], false⟩,  -- 90
  some ⟨(.strct [(false, 22, 0), (false, 3, 1)]), 2, 32, [(.slc none 0 (some 0) 0), (.int .i64 0)], true⟩,  -- 91
  some ⟨(.strct [(false, 22, 0), (false, 3, 1)]), 2, 32, [(.slc none 0 (some 0) 0), (.int .i64 0)], true⟩,  -- 92
  some ⟨.func, 1, 8, [.nilFn], false⟩,  -- 93
  some ⟨(.ptr 96), 1, 8, [(.ptr none)], false⟩,  -- 94
  some ⟨(.strct [(false, 9, 0), (false, 3, 1), (false, 58, 2)]), 3, 48, [(.str []), (.int .i64 0), (.slc none 0 (some 0) 0)], true⟩,  -- 95
  some ⟨(.strct [(false, 9, 0), (false, 3, 1), (false, 58, 2)]), 3, 48, [(.str []), (.int .i64 0), (.slc none 0 (some 0) 0)], true⟩,  -- 96
  some ⟨.func, 1, 8, [.nilFn], false⟩,  -- 97
  some ⟨(.ptr 100), 1, 8, [(.ptr none)], false⟩,  -- 98
  some ⟨(.strct [(false, 9, 0), (false, 3, 1), (false, 4, 2)]), 3, 32, [(.str []), (.int .i64 0), (.bool false)], true⟩,  -- 99
  some ⟨(.strct [(false, 9, 0), (false, 3, 1), (false, 4, 2)]), 3, 32, [(.str []), (.int .i64 0), (.bool false)], true⟩,  -- 100
  some ⟨.func, 1, 8, [.nilFn], false⟩,  -- 101
  some ⟨.func, 1, 8, [.nilFn], false⟩,  -- 102
  some ⟨.func, 1, 8, [.nilFn], false⟩,  -- 103
  some ⟨(.ptr 5), 1, 8, [(.ptr none)], false⟩,  -- 104
  some ⟨.func, 1, 8, [.nilFn], false⟩,  -- 105
  some ⟨.func, 1, 8, [.nilFn], false⟩,  -- 106
  some ⟨.func, 1, 8, [.nilFn], false⟩,  -- 107
  some ⟨.func, 1, 8, [.nilFn], false⟩,  -- 108
  some ⟨.other, 1, 8, [(.ptr none)], false⟩,  -- 109
  some ⟨.func, 1, 8, [.nilFn], false⟩,  -- 110
  none,  -- 111
  some ⟨.func, 1, 8, [.nilFn], false⟩,  -- 112
  some ⟨.func, 1, 8, [.nilFn], false⟩,  -- 113
  some ⟨.func, 1, 8, [.nilFn], false⟩,  -- 114
  some ⟨.func, 1, 8, [.nilFn], false⟩,  -- 115
  some ⟨.func, 1, 8, [.nilFn], false⟩,  -- 116
  some ⟨.func, 1, 8, [.nilFn], false⟩,  -- 117
  some ⟨.func, 1, 8, [.nilFn], false⟩,  -- 118
  some ⟨.func, 1, 8, [.nilFn], false⟩,  -- 119
  some ⟨.func, 1, 8, [.nilFn], false⟩,  -- 120
  some ⟨(.strct [(false, 17, 0), (false, 17, 1), (false, 17, 2), (false, 9, 3)]), 4, 40, [(.ptr none), (.ptr none), (.ptr none), (.str [])], false⟩,  -- 121
  some ⟨(.strct [(false, 17, 0), (false, 17, 1), (false, 17, 2), (false, 9, 3)]), 4, 40, [(.ptr none), (.ptr none), (.ptr none), (.str [])], false⟩,  -- 122
  some ⟨(.arr 0 16), 0, 0, [], false⟩,  -- 123
  some ⟨(.strct [(true, 123, 0)]), 0, 0, [], false⟩,  -- 124
  some ⟨(.strct [(true, 123, 0)]), 0, 0, [], false⟩,  -- 125
  some ⟨.func, 1, 8, [.nilFn], false⟩,  -- 126
  some ⟨(.int .u32), 1, 4, [(.int .u32 0)], false⟩,  -- 127
  some ⟨(.int .u8), 1, 1, [(.int .u8 0)], false⟩,  -- 128
  some ⟨(.int .u8), 1, 1, [(.int .u8 0)], false⟩,  -- 129
  some ⟨.func, 1, 8, [.nilFn], false⟩,  -- 130
  some ⟨(.int .i32), 1, 4, [(.int .i32 0)], false⟩,  -- 131
  some ⟨(.int .i32), 1, 4, [(.int .i32 0)], false⟩,  -- 132
  some ⟨(.strct [(false, 12, 0), (false, 12, 1), (false, 127, 2), (false, 128, 3), (false, 5, 4), (false, 5, 5), (false, 129, 6), (false, 130, 7), (false, 104, 8), (false, 131, 9), (false, 132, 10)]), 11, 48, [(.int .u64 0), (.int .u64 0), (.int .u32 0), (.int .u8 0), (.int .u8 0), (.int .u8 0), (.int .u8 0), .nilFn, (.ptr none), (.int .i32 0), (.int .i32 0)], false⟩,  -- 133
  some ⟨(.strct [(false, 12, 0), (false, 12, 1), (false, 127, 2), (false, 128, 3), (false, 5, 4), (false, 5, 5), (false, 129, 6), (false, 130, 7), (false, 104, 8), (false, 131, 9), (false, 132, 10)]), 11, 48, [(.int .u64 0), (.int .u64 0), (.int .u32 0), (.int .u8 0), (.int .u8 0), (.int .u8 0), (.int .u8 0), .nilFn, (.ptr none), (.int .i32 0), (.int .i32 0)], false⟩]  -- 134
set_option maxHeartbeats 4000000 in
theorem tblT_eq : (List.range 135).map (mkTI Try.prog) = tblT := by kernel_rfl
def T : TT := tabT tblT
theorem hT : TypesOk Try.prog T := tabT_ok tblT_eq
noncomputable def tblF : List (Option Func) := [
  none,  -- main.main
  none,  -- gosem.cut
  some Try.f2,  -- gosem.cut.init
  some Try.f3,  -- lemmata/lemmatalaw10.UndoAll
  some Try.f4,  -- lemmata/lemmatalaw10.UndoForms
  some Try.f5,  -- lemmata/lemmatalaw10.UndoBack
  some Try.f6,  -- lemmata/lemmatalaw8.PieceAll
  some Try.f7,  -- lemmata/lemmatalaw8.PieceMay
  some Try.f8,  -- lemmata/lemmatalaw8.PieceForms
  some Try.f9,  -- lemmata/lemmatalaw8.PieceBack
  some Try.f10,  -- lemmata/lemmatalaw3.RexAll
  some Try.f11,  -- lemmata/lemmatalaw3.RexCount
  some Try.f12,  -- lemmata/lemmatalaw3.RexForms
  some Try.f13,  -- lemmata/lemmatalaw3.RexRound
  some Try.f14,  -- lemmata/lemmatalaw10.begun
  some Try.f15,  -- lemmata/undo.Do
  some Try.f16,  -- lemmata/undo.Undo
  some Try.f17,  -- lemmata/undo.Redo
  some Try.f18,  -- lemmata/lemmataref3.SameInts
  some Try.f19,  -- lemmata/lemmatalaw8.begun
  some Try.f20,  -- lemmata/piece.Open
  some Try.f21,  -- lemmata/piece.Splice
  some Try.f22,  -- lemmata/lemmataref3.Splice
  some Try.f23,  -- lemmata/piece.Text
  some Try.f24,  -- lemmata/piece.Len
  some Try.f25,  -- lemmata/piece.May
  some Try.f26,  -- lemmata/lemmatalaw3.begun
  some Try.f27,  -- lemmata/lemmataplay.Made
  some Try.f28,  -- (*lemmata/lemmataplay.Picks).Rex
  some Try.f29,  -- lemmata/rex.Parse
  some Try.f30,  -- lemmata/lemmataref3.Parse
  some Try.f31,  -- lemmata/lemmataref3.SameItems
  some Try.f32,  -- lemmata/undo.push[int]
  some Try.f33,  -- lemmata/undo.pop[int]
  some Try.f34,  -- lemmata/undo.twin
  some Try.f35,  -- slices.Clone[[]lemmata/api.Piece,lemmata/api.Piece]
  some Try.f36,  -- lemmata/piece.cut
  some Try.f37,  -- lemmata/lemmataref3.MaySplice
  some Try.f38,  -- (lemmata/piece.Table).pieces
  some Try.f39,  -- (*strings.Builder).WriteString
  some Try.f40,  -- (*strings.Builder).String
  some Try.f41,  -- slices.ContainsFunc[[]lemmata/api.Piece,lemmata/api.Piece]
  some Try.f42,  -- lemmata/piece.May$1
  some Try.f43,  -- (lemmata/piece.Table).text
  some Try.f44,  -- (*lemmata/lemmataplay.Picks).Num
  some Try.f45,  -- (*lemmata/rex.reader).pattern
  some Try.f46,  -- (*lemmata/lemmataref3.reader).alt
  some Try.f47,  -- slices.Clone[[]int,int]
  some Try.f48,  -- (lemmata/piece.Table).pieces$1
  some Try.f49,  -- (*strings.Builder).copyCheck
  some Try.f50,  -- slices.IndexFunc[[]lemmata/api.Piece,lemmata/api.Piece]
  some Try.f51,  -- (*lemmata/rex.reader).row
  some Try.f52,  -- (*lemmata/rex.reader).takes
  some Try.f53,  -- (*lemmata/rex.reader).puts
  some Try.f54,  -- (*lemmata/lemmataref3.reader).join
  some Try.f55,  -- (*lemmata/lemmataref3.reader).peek
  none,  -- internal/abi.NoEscape
  some Try.f57,  -- (*lemmata/rex.reader).many
  some Try.f58,  -- (*lemmata/rex.reader).next
  some Try.f59,  -- (*lemmata/lemmataref3.reader).many
  some Try.f60,  -- (*lemmata/rex.reader).atom
  some Try.f61,  -- (*lemmata/lemmataref3.reader).atom
  some Try.f62,  -- (*lemmata/rex.reader).class
  some Try.f63,  -- (*lemmata/rex.reader).sign
  some Try.f64,  -- (*lemmata/lemmataref3.reader).class
  some Try.f65,  -- (*lemmata/lemmataref3.reader).one
  some Try.f66,  -- (*lemmata/rex.reader).ranges
  some Try.f67,  -- strings.IndexByte
  some Try.f68,  -- lemmata/lemmataref3.special
  some Try.f69,  -- (*lemmata/rex.reader).ranges$1
  some Try.f70,  -- internal/stringslite.IndexByte
  some Try.f71,  -- internal/bytealg.IndexByteString
  none,  -- (runtime.boundsError).Error
  none,  -- (runtime.boundsError).RuntimeError
  none,  -- (runtime.errorString).Error
  none,  -- (runtime.errorString).RuntimeError
  none,  -- (runtime.plainError).Error
  none,  -- (runtime.plainError).RuntimeError
  none,  -- (runtime.errorAddressString).Error
  none,  -- (runtime.errorAddressString).RuntimeError
  none,  -- (*runtime.TypeAssertionError).Error
  none,  -- (*runtime.TypeAssertionError).RuntimeError
  none,  -- (*runtime.PanicNilError).Error
  none,  -- (*runtime.PanicNilError).RuntimeError
  none,  -- (*internal/abi.Type).Align
  none,  -- (internal/runtime/maps.unhashableTypeError).Error
  none,  -- (internal/runtime/maps.unhashableTypeError).RuntimeError
  none,  -- (*lemmata/lemmataplay.Picks).Over
  none,  -- (*strings.Builder).Reset
  none]  -- (internal/abi.Kind).String
set_option maxHeartbeats 4000000 in
theorem tblF_eq : Try.prog.funcs.toList.map okFunc = tblF := by kernel_rfl
noncomputable def F : Nat → Option Func := tabF tblF
theorem hF : FuncsOk Try.prog F := tabF_ok tblF_eq
end Go.Proofs.Ytibehogiobencaa
