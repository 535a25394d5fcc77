/-
  The tables of types and functions of the program, as the abstract machine takes them.
-/
import Derived.Test.YtenpjkinpecnfaaProg
import Derived.Test.YtenpjkinpecnfaaAmP
import Derived.KernelRfl
namespace Go.Proofs.Ytenpjkinpecnfaa
open Go.Am
set_option maxRecDepth 100000
def tblT : List (Option TI) := [
  none,  -- 0
  some ⟨.func, 1, 8, [.nilFn], false⟩,  -- 1
  some ⟨(.int .i64), 1, 8, [(.int .i64 0)], false⟩,  -- 2
  some ⟨(.int .i64), 1, 8, [(.int .i64 0)], false⟩,  -- 3
  some ⟨.bool, 1, 1, [(.bool false)], false⟩,  -- 4
  some ⟨(.int .u8), 1, 1, [(.int .u8 0)], false⟩,  -- 5
  some ⟨(.int .u8), 1, 1, [(.int .u8 0)], false⟩,  -- 6
  some ⟨(.strct [(false, 2, 0), (false, 3, 1), (false, 4, 2), (false, 6, 3)]), 4, 24, [(.int .i64 0), (.int .i64 0), (.bool false), (.int .u8 0)], true⟩,  -- 7
  some ⟨(.strct [(false, 2, 0), (false, 3, 1), (false, 4, 2), (false, 6, 3)]), 4, 24, [(.int .i64 0), (.int .i64 0), (.bool false), (.int .u8 0)], true⟩,  -- 8
  some ⟨.str, 1, 16, [(.str [])], false⟩,  -- 9
  some ⟨.str, 1, 16, [(.str [])], false⟩,  -- 10
  some ⟨.str, 1, 16, [(.str [])], false⟩,  -- 11
  some ⟨(.int .u64), 1, 8, [(.int .u64 0)], false⟩,  -- 12
  some ⟨(.strct [(false, 9, 0), (false, 12, 1)]), 2, 24, [(.str []), (.int .u64 0)], false⟩,  -- 13
  some ⟨(.strct [(false, 9, 0), (false, 12, 1)]), 2, 24, [(.str []), (.int .u64 0)], false⟩,  -- 14
  some ⟨(.ptr 169), 1, 8, [(.ptr none)], false⟩,  -- 15
  some ⟨(.ptr 172), 1, 8, [(.ptr none)], false⟩,  -- 16
  some ⟨(.ptr 181), 1, 8, [(.ptr none)], false⟩,  -- 17
  some ⟨(.strct [(false, 17, 0)]), 1, 8, [(.ptr none)], false⟩,  -- 18
  some ⟨(.strct [(false, 17, 0)]), 1, 8, [(.ptr none)], false⟩,  -- 19
  some ⟨.iface, 1, 16, [.nilIface], false⟩,  -- 20
  some ⟨(.int .i32), 1, 4, [(.int .i32 0)], false⟩,  -- 21
  some ⟨(.slc 5), 1, 24, [(.slc none 0 (some 0) 0)], false⟩,  -- 22
  some ⟨.func, 1, 8, [.nilFn], false⟩,  -- 23
  some ⟨(.ptr 94), 1, 8, [(.ptr none)], false⟩,  -- 24
  some ⟨.func, 1, 8, [.nilFn], false⟩,  -- 25
  some ⟨.func, 1, 8, [.nilFn], false⟩,  -- 26
  some ⟨(.slc 9), 1, 24, [(.slc none 0 (some 0) 0)], false⟩,  -- 27
  some ⟨(.slc 35), 1, 24, [(.slc none 0 (some 0) 0)], false⟩,  -- 28
  none,  -- 29
  some ⟨.func, 1, 8, [.nilFn], false⟩,  -- 30
  some ⟨.func, 1, 8, [.nilFn], false⟩,  -- 31
  some ⟨.func, 1, 8, [.nilFn], false⟩,  -- 32
  some ⟨(.slc 37), 1, 24, [(.slc none 0 (some 0) 0)], false⟩,  -- 33
  some ⟨(.strct [(false, 3, 0), (false, 33, 1)]), 2, 32, [(.int .i64 0), (.slc none 0 (some 0) 0)], true⟩,  -- 34
  some ⟨(.strct [(false, 3, 0), (false, 33, 1)]), 2, 32, [(.int .i64 0), (.slc none 0 (some 0) 0)], true⟩,  -- 35
  some ⟨(.strct [(false, 5, 0), (false, 5, 1)]), 2, 2, [(.int .u8 0), (.int .u8 0)], true⟩,  -- 36
  some ⟨(.strct [(false, 5, 0), (false, 5, 1)]), 2, 2, [(.int .u8 0), (.int .u8 0)], true⟩,  -- 37
  some ⟨.func, 1, 8, [.nilFn], false⟩,  -- 38
  some ⟨.func, 1, 8, [.nilFn], false⟩,  -- 39
  some ⟨(.slc 28), 1, 24, [(.slc none 0 (some 0) 0)], false⟩,  -- 40
  some ⟨.func, 1, 8, [.nilFn], false⟩,  -- 41
  some ⟨(.slc 117), 1, 24, [(.slc none 0 (some 0) 0)], false⟩,  -- 42
  some ⟨.func, 1, 8, [.nilFn], false⟩,  -- 43
  some ⟨.func, 1, 8, [.nilFn], false⟩,  -- 44
  none,  -- 45
  some ⟨.func, 1, 8, [.nilFn], false⟩,  -- 46
  some ⟨.func, 1, 8, [.nilFn], false⟩,  -- 47
  some ⟨.func, 1, 8, [.nilFn], false⟩,  -- 48
  some ⟨(.slc 3), 1, 24, [(.slc none 0 (some 0) 0)], false⟩,  -- 49
  some ⟨(.slc 56), 1, 24, [(.slc none 0 (some 0) 0)], false⟩,  -- 50
  some ⟨.func, 1, 8, [.nilFn], false⟩,  -- 51
  some ⟨.func, 1, 8, [.nilFn], false⟩,  -- 52
  some ⟨.func, 1, 8, [.nilFn], false⟩,  -- 53
  some ⟨(.arr 256 3), 256, 2048, (List.replicate 256 (.int .i64 0)), false⟩,  -- 54
  some ⟨(.strct [(false, 54, 0), (false, 3, 256)]), 257, 2056, (List.replicate 257 (.int .i64 0)), true⟩,  -- 55
  some ⟨(.strct [(false, 54, 0), (false, 3, 256)]), 257, 2056, (List.replicate 257 (.int .i64 0)), true⟩,  -- 56
  some ⟨.func, 1, 8, [.nilFn], false⟩,  -- 57
  some ⟨.func, 1, 8, [.nilFn], false⟩,  -- 58
  some ⟨(.slc 60), 1, 24, [(.slc none 0 (some 0) 0)], false⟩,  -- 59
  some ⟨(.arr 4 5), 4, 4, [(.int .u8 0), (.int .u8 0), (.int .u8 0), (.int .u8 0)], false⟩,  -- 60
  some ⟨.func, 1, 8, [.nilFn], false⟩,  -- 61
  some ⟨(.slc 73), 1, 24, [(.slc none 0 (some 0) 0)], false⟩,  -- 62
  some ⟨.func, 1, 8, [.nilFn], false⟩,  -- 63
  none,  -- 64
  some ⟨.func, 1, 8, [.nilFn], false⟩,  -- 65
  none,  -- 66
  some ⟨.func, 1, 8, [.nilFn], false⟩,  -- 67
  some ⟨(.slc 71), 1, 24, [(.slc none 0 (some 0) 0)], false⟩,  -- 68
  some ⟨.func, 1, 8, [.nilFn], false⟩,  -- 69
  some ⟨(.strct [(false, 3, 0), (false, 3, 1), (false, 3, 2)]), 3, 24, [(.int .i64 0), (.int .i64 0), (.int .i64 0)], true⟩,  -- 70
  some ⟨(.strct [(false, 3, 0), (false, 3, 1), (false, 3, 2)]), 3, 24, [(.int .i64 0), (.int .i64 0), (.int .i64 0)], true⟩,  -- 71
  some ⟨(.strct [(false, 9, 0), (false, 9, 1), (false, 4, 2)]), 3, 40, [(.str []), (.str []), (.bool false)], true⟩,  -- 72
  some ⟨(.strct [(false, 9, 0), (false, 9, 1), (false, 4, 2)]), 3, 40, [(.str []), (.str []), (.bool false)], true⟩,  -- 73
  some ⟨.func, 1, 8, [.nilFn], false⟩,  -- 74
  some ⟨(.slc 49), 1, 24, [(.slc none 0 (some 0) 0)], false⟩,  -- 75
  some ⟨(.slc 79), 1, 24, [(.slc none 0 (some 0) 0)], false⟩,  -- 76
  some ⟨.func, 1, 8, [.nilFn], false⟩,  -- 77
  some ⟨(.strct [(false, 3, 0), (false, 9, 1)]), 2, 24, [(.int .i64 0), (.str [])], true⟩,  -- 78
  some ⟨(.strct [(false, 3, 0), (false, 9, 1)]), 2, 24, [(.int .i64 0), (.str [])], true⟩,  -- 79
  some ⟨(.slc 83), 1, 24, [(.slc none 0 (some 0) 0)], false⟩,  -- 80
  some ⟨.func, 1, 8, [.nilFn], false⟩,  -- 81
  some ⟨(.strct [(false, 3, 0), (false, 3, 1), (false, 9, 2)]), 3, 32, [(.int .i64 0), (.int .i64 0), (.str [])], true⟩,  -- 82
  some ⟨(.strct [(false, 3, 0), (false, 3, 1), (false, 9, 2)]), 3, 32, [(.int .i64 0), (.int .i64 0), (.str [])], true⟩,  -- 83
  none,  -- 84
  some ⟨.func, 1, 8, [.nilFn], false⟩,  -- 85
  none,  -- 86
  some ⟨.func, 1, 8, [.nilFn], false⟩,  -- 87
  some ⟨.func, 1, 8, [.nilFn], false⟩,  -- 88
  some ⟨.func, 1, 8, [.nilFn], false⟩,  -- 89
  some ⟨.func, 1, 8, [.nilFn], false⟩,  -- 90
  some ⟨.func, 1, 8, [.nilFn], false⟩,  -- 91
  some ⟨.func, 1, 8, [.nilFn], false⟩,  -- 92
  some ⟨(.strct [(false, 22, 0), (false, 3, 1)]), 2, 32, [(.slc none 0 (some 0) 0), (.int .i64 0)], true⟩,  -- 93
  some ⟨(.strct [(false, 22, 0), (false, 3, 1)]), 2, 32, [(.slc none 0 (some 0) 0), (.int .i64 0)], true⟩,  -- 94
  some ⟨.func, 1, 8, [.nilFn], false⟩,  -- 95
  some ⟨(.ptr 98), 1, 8, [(.ptr none)], false⟩,  -- 96
  some ⟨(.strct [(false, 9, 0), (false, 3, 1), (false, 28, 2)]), 3, 48, [(.str []), (.int .i64 0), (.slc none 0 (some 0) 0)], true⟩,  -- 97
  some ⟨(.strct [(false, 9, 0), (false, 3, 1), (false, 28, 2)]), 3, 48, [(.str []), (.int .i64 0), (.slc none 0 (some 0) 0)], true⟩,  -- 98
  some ⟨.func, 1, 8, [.nilFn], false⟩,  -- 99
  some ⟨(.ptr 102), 1, 8, [(.ptr none)], false⟩,  -- 100
  some ⟨(.strct [(false, 9, 0), (false, 3, 1), (false, 4, 2)]), 3, 32, [(.str []), (.int .i64 0), (.bool false)], true⟩,  -- 101
  some ⟨(.strct [(false, 9, 0), (false, 3, 1), (false, 4, 2)]), 3, 32, [(.str []), (.int .i64 0), (.bool false)], true⟩,  -- 102
  some ⟨.func, 1, 8, [.nilFn], false⟩,  -- 103
  some ⟨(.ptr 109), 1, 8, [(.ptr none)], false⟩,  -- 104
  some ⟨(.slc 112), 1, 24, [(.slc none 0 (some 0) 0)], false⟩,  -- 105
  some ⟨(.strct [(false, 105, 0)]), 1, 24, [(.slc none 0 (some 0) 0)], true⟩,  -- 106
  some ⟨(.strct [(false, 105, 0)]), 1, 24, [(.slc none 0 (some 0) 0)], true⟩,  -- 107
  some ⟨(.strct [(false, 42, 0), (false, 107, 1)]), 2, 48, [(.slc none 0 (some 0) 0), (.slc none 0 (some 0) 0)], true⟩,  -- 108
  some ⟨(.strct [(false, 42, 0), (false, 107, 1)]), 2, 48, [(.slc none 0 (some 0) 0), (.slc none 0 (some 0) 0)], true⟩,  -- 109
  some ⟨.func, 1, 8, [.nilFn], false⟩,  -- 110
  some ⟨(.strct [(false, 3, 0), (false, 3, 1)]), 2, 16, [(.int .i64 0), (.int .i64 0)], true⟩,  -- 111
  some ⟨(.strct [(false, 3, 0), (false, 3, 1)]), 2, 16, [(.int .i64 0), (.int .i64 0)], true⟩,  -- 112
  none,  -- 113
  some ⟨.func, 1, 8, [.nilFn], false⟩,  -- 114
  some ⟨.func, 1, 8, [.nilFn], false⟩,  -- 115
  some ⟨(.strct [(false, 5, 0), (false, 5, 1), (false, 3, 2), (false, 49, 3), (false, 3, 4)]), 5, 48, [(.int .u8 0), (.int .u8 0), (.int .i64 0), (.slc none 0 (some 0) 0), (.int .i64 0)], true⟩,  -- 116
  some ⟨(.strct [(false, 5, 0), (false, 5, 1), (false, 3, 2), (false, 49, 3), (false, 3, 4)]), 5, 48, [(.int .u8 0), (.int .u8 0), (.int .i64 0), (.slc none 0 (some 0) 0), (.int .i64 0)], true⟩,  -- 117
  some ⟨(.slc 4), 1, 24, [(.slc none 0 (some 0) 0)], false⟩,  -- 118
  some ⟨(.slc 4), 1, 24, [(.slc none 0 (some 0) 0)], false⟩,  -- 119
  some ⟨.func, 1, 8, [.nilFn], false⟩,  -- 120
  some ⟨.func, 1, 8, [.nilFn], false⟩,  -- 121
  some ⟨.func, 1, 8, [.nilFn], false⟩,  -- 122
  some ⟨.func, 1, 8, [.nilFn], false⟩,  -- 123
  some ⟨(.ptr 128), 1, 8, [(.ptr none)], false⟩,  -- 124
  some ⟨(.map 9 3), 1, 8, [(.map none)], false⟩,  -- 125
  some ⟨(.slc 130), 1, 24, [(.slc none 0 (some 0) 0)], false⟩,  -- 126
  some ⟨(.strct [(false, 42, 0), (false, 126, 1), (false, 125, 2)]), 3, 56, [(.slc none 0 (some 0) 0), (.slc none 0 (some 0) 0), (.map none)], true⟩,  -- 127
  some ⟨(.strct [(false, 42, 0), (false, 126, 1), (false, 125, 2)]), 3, 56, [(.slc none 0 (some 0) 0), (.slc none 0 (some 0) 0), (.map none)], true⟩,  -- 128
  some ⟨.func, 1, 8, [.nilFn], false⟩,  -- 129
  some ⟨(.slc 3), 1, 24, [(.slc none 0 (some 0) 0)], false⟩,  -- 130
  some ⟨.func, 1, 8, [.nilFn], false⟩,  -- 131
  some ⟨(.arr 256 4), 256, 256, (List.replicate 256 (.bool false)), false⟩,  -- 132
  some ⟨.func, 1, 8, [.nilFn], false⟩,  -- 133
  some ⟨.func, 1, 8, [.nilFn], false⟩,  -- 134
  some ⟨.func, 1, 8, [.nilFn], false⟩,  -- 135
  some ⟨.func, 1, 8, [.nilFn], false⟩,  -- 136
  some ⟨.func, 1, 8, [.nilFn], false⟩,  -- 137
  some ⟨.func, 1, 8, [.nilFn], false⟩,  -- 138
  some ⟨.func, 1, 8, [.nilFn], false⟩,  -- 139
  some ⟨.func, 1, 8, [.nilFn], false⟩,  -- 140
  some ⟨.func, 1, 8, [.nilFn], false⟩,  -- 141
  some ⟨.func, 1, 8, [.nilFn], false⟩,  -- 142
  some ⟨.func, 1, 8, [.nilFn], false⟩,  -- 143
  some ⟨.func, 1, 8, [.nilFn], false⟩,  -- 144
  some ⟨.func, 1, 8, [.nilFn], false⟩,  -- 145
  some ⟨.func, 1, 8, [.nilFn], false⟩,  -- 146
  some ⟨.func, 1, 8, [.nilFn], false⟩,  -- 147
  none,  -- 148
  some ⟨.func, 1, 8, [.nilFn], false⟩,  -- 149
  some ⟨.func, 1, 8, [.nilFn], false⟩,  -- 150
  some ⟨.func, 1, 8, [.nilFn], false⟩,  -- 151
  some ⟨.func, 1, 8, [.nilFn], false⟩,  -- 152
  some ⟨(.int .u64), 1, 8, [(.int .u64 0)], false⟩,  -- 153
  none,  -- 154
  some ⟨.func, 1, 8, [.nilFn], false⟩,  -- 155
  none,  -- 156
  some ⟨.func, 1, 8, [.nilFn], false⟩,  -- 157
  some ⟨.func, 1, 8, [.nilFn], false⟩,  -- 158
  some ⟨.func, 1, 8, [.nilFn], false⟩,  -- 159
  some ⟨(.ptr 107), 1, 8, [(.ptr none)], false⟩,  -- 160
  some ⟨.func, 1, 8, [.nilFn], false⟩,  -- 161
  some ⟨.func, 1, 8, [.nilFn], false⟩,  -- 162
  some ⟨.func, 1, 8, [.nilFn], false⟩,  -- 163
  some ⟨.func, 1, 8, [.nilFn], false⟩,  -- 164
  some ⟨.func, 1, 8, [.nilFn], false⟩,  -- 165
  some ⟨.func, 1, 8, [.nilFn], false⟩,  -- 166
  some ⟨.func, 1, 8, [.nilFn], false⟩,  -- 167
  some ⟨(.strct [(false, 17, 0), (false, 17, 1), (false, 17, 2), (false, 9, 3)]), 4, 40, [(.ptr none), (.ptr none), (.ptr none), (.str [])], false⟩,  -- 168
  some ⟨(.strct [(false, 17, 0), (false, 17, 1), (false, 17, 2), (false, 9, 3)]), 4, 40, [(.ptr none), (.ptr none), (.ptr none), (.str [])], false⟩,  -- 169
  some ⟨(.arr 0 16), 0, 0, [], false⟩,  -- 170
  some ⟨(.strct [(true, 170, 0)]), 0, 0, [], false⟩,  -- 171
  some ⟨(.strct [(true, 170, 0)]), 0, 0, [], false⟩,  -- 172
  some ⟨(.int .u32), 1, 4, [(.int .u32 0)], false⟩,  -- 173
  some ⟨(.int .u8), 1, 1, [(.int .u8 0)], false⟩,  -- 174
  some ⟨(.int .u8), 1, 1, [(.int .u8 0)], false⟩,  -- 175
  some ⟨.func, 1, 8, [.nilFn], false⟩,  -- 176
  some ⟨(.ptr 5), 1, 8, [(.ptr none)], false⟩,  -- 177
  some ⟨(.int .i32), 1, 4, [(.int .i32 0)], false⟩,  -- 178
  some ⟨(.int .i32), 1, 4, [(.int .i32 0)], false⟩,  -- 179
  some ⟨(.strct [(false, 12, 0), (false, 12, 1), (false, 173, 2), (false, 174, 3), (false, 5, 4), (false, 5, 5), (false, 175, 6), (false, 176, 7), (false, 177, 8), (false, 178, 9), (false, 179, 10)]), 11, 48, [(.int .u64 0), (.int .u64 0), (.int .u32 0), (.int .u8 0), (.int .u8 0), (.int .u8 0), (.int .u8 0), .nilFn, (.ptr none), (.int .i32 0), (.int .i32 0)], false⟩,  -- 180
  some ⟨(.strct [(false, 12, 0), (false, 12, 1), (false, 173, 2), (false, 174, 3), (false, 5, 4), (false, 5, 5), (false, 175, 6), (false, 176, 7), (false, 177, 8), (false, 178, 9), (false, 179, 10)]), 11, 48, [(.int .u64 0), (.int .u64 0), (.int .u32 0), (.int .u8 0), (.int .u8 0), (.int .u8 0), (.int .u8 0), .nilFn, (.ptr none), (.int .i32 0), (.int .i32 0)], false⟩,  -- 181
  some ⟨.other, 1, 8, [(.ptr none)], false⟩]  -- 182
set_option maxHeartbeats 4000000 in
theorem tblT_eq : (List.range 183).map (mkTI Try.prog) = tblT := by kernel_rfl
def T : TT := tabT tblT
theorem hT : TypesOk Try.prog T := tabT_ok tblT_eq
noncomputable def tblF : List (Option Func) := [
  none,  -- main.main
  none,  -- gosem.cut
  some Try.f2,  -- gosem.cut.init
  some Try.f3,  -- lemmata/lemmatalaw3.RexAll
  some Try.f4,  -- lemmata/lemmatalaw3.RexCount
  some Try.f5,  -- lemmata/lemmatalaw3.RexForms
  some Try.f6,  -- lemmata/lemmatalaw3.RexRound
  some Try.f7,  -- lemmata/lemmatalaw4.NfaAll
  some Try.f8,  -- lemmata/lemmatalaw4.NfaEach
  some Try.f9,  -- lemmata/lemmatalaw4.NfaForms
  some Try.f10,  -- lemmata/lemmatalaw4.NfaMore
  some Try.f11,  -- lemmata/lemmatalaw5.DfaAll
  some Try.f12,  -- lemmata/lemmatalaw5.DfaWays
  some Try.f13,  -- lemmata/lemmatalaw5.DfaMany
  some Try.f14,  -- lemmata/lemmatalaw5.DfaWild
  some Try.f15,  -- lemmata/lemmatalaw6.LexCovers
  some Try.f16,  -- lemmata/lemmatalaw6.LexRows
  some Try.f17,  -- lemmata/lemmatalaw6.LexForms
  some Try.f18,  -- lemmata/lemmatalaw7.RelexAll
  some Try.f19,  -- lemmata/lemmatalaw7.RelexNone
  some Try.f20,  -- lemmata/lemmatalaw7.RelexFew
  some Try.f21,  -- lemmata/lemmatalaw3.begun
  some Try.f22,  -- lemmata/lemmataplay.Made
  some Try.f23,  -- (*lemmata/lemmataplay.Picks).Rex
  some Try.f24,  -- lemmata/rex.Parse
  some Try.f25,  -- lemmata/lemmataref3.Parse
  some Try.f26,  -- lemmata/lemmataref3.SameItems
  some Try.f27,  -- lemmata/lemmatalaw4.begun
  some Try.f28,  -- lemmata/lemmatalaw4.Pats
  some Try.f29,  -- lemmata/nfa.Of
  some Try.f30,  -- lemmata/lemmatalaw4.Word
  some Try.f31,  -- lemmata/nfa.Longest
  some Try.f32,  -- lemmata/lemmataref3.Longest
  some Try.f33,  -- lemmata/lemmatalaw5.begun
  some Try.f34,  -- lemmata/dfa.Of
  some Try.f35,  -- lemmata/lemmatalaw4.Few
  some Try.f36,  -- lemmata/dfa.Longest
  some Try.f37,  -- lemmata/lemmatalaw6.begun
  some Try.f38,  -- (*lemmata/lemmataplay.Picks).Toks
  some Try.f39,  -- lemmata/lemmataref3.Pats
  some Try.f40,  -- lemmata/lex.Rows
  some Try.f41,  -- lemmata/lex.All
  some Try.f42,  -- lemmata/lex.Leaves
  some Try.f43,  -- lemmata/lemmatalaw7.begun
  some Try.f44,  -- lemmata/lemmataref3.All
  some Try.f45,  -- lemmata/relex.Edit
  some Try.f46,  -- lemmata/lemmataref3.Splice
  some Try.f47,  -- lemmata/lemmataref3.SameTokens
  some Try.f48,  -- lemmata/lemmataref3.Kept
  some Try.f49,  -- (*lemmata/lemmataplay.Picks).Num
  some Try.f50,  -- (*lemmata/rex.reader).pattern
  some Try.f51,  -- (*lemmata/lemmataref3.reader).alt
  some Try.f52,  -- (*lemmata/nfa.builder).state
  some Try.f53,  -- (*lemmata/nfa.builder).pattern
  some Try.f54,  -- (*lemmata/nfa.builder).free
  some Try.f55,  -- (lemmata/nfa.set).add
  some Try.f56,  -- slices.Contains[lemmata/nfa.set,bool]
  some Try.f57,  -- (lemmata/nfa.set).end
  some Try.f58,  -- lemmata/lemmataref3.ends
  some Try.f59,  -- (*lemmata/dfa.builder).row
  some Try.f60,  -- (*lemmata/dfa.builder).whole
  some Try.f61,  -- (*lemmata/dfa.builder).edges
  some Try.f62,  -- (*lemmata/dfa.builder).next
  some Try.f63,  -- lemmata/lex.tokens
  some Try.f64,  -- lemmata/relex.Edit$1
  some Try.f65,  -- lemmata/relex.piece
  some Try.f66,  -- lemmata/relex.fronts[lemmata/api.Token]
  some Try.f67,  -- lemmata/relex.backs[lemmata/api.Token]
  some Try.f68,  -- lemmata/lemmataref3.MaySplice
  some Try.f69,  -- (*lemmata/rex.reader).row
  some Try.f70,  -- (*lemmata/rex.reader).takes
  some Try.f71,  -- (*lemmata/rex.reader).puts
  some Try.f72,  -- (*lemmata/lemmataref3.reader).join
  some Try.f73,  -- (*lemmata/lemmataref3.reader).peek
  some Try.f74,  -- (*lemmata/nfa.builder).item
  some Try.f75,  -- slices.Index[lemmata/nfa.set,bool]
  some Try.f76,  -- lemmata/lemmataref3.first
  some Try.f77,  -- lemmata/lemmataref3.either
  some Try.f78,  -- (lemmata/dfa.set).key
  some Try.f79,  -- slices.Clone[[]int,int]
  some Try.f80,  -- lemmata/lex.tokens$1
  some Try.f81,  -- (*lemmata/rex.reader).many
  some Try.f82,  -- (*lemmata/rex.reader).next
  some Try.f83,  -- (*lemmata/lemmataref3.reader).many
  some Try.f84,  -- (*lemmata/nfa.builder).class
  some Try.f85,  -- (*lemmata/nfa.builder).two
  some Try.f86,  -- (*lemmata/nfa.builder).many
  some Try.f87,  -- (*lemmata/rex.reader).atom
  some Try.f88,  -- (*lemmata/lemmataref3.reader).atom
  some Try.f89,  -- (*lemmata/nfa.stack[lemmata/nfa.part]).take
  some Try.f90,  -- (*lemmata/rex.reader).class
  some Try.f91,  -- (*lemmata/rex.reader).sign
  some Try.f92,  -- (*lemmata/lemmataref3.reader).class
  some Try.f93,  -- (*lemmata/lemmataref3.reader).one
  some Try.f94,  -- slices.Clone[[]lemmata/nfa.part,lemmata/nfa.part]
  some Try.f95,  -- (*lemmata/rex.reader).ranges
  some Try.f96,  -- strings.IndexByte
  some Try.f97,  -- lemmata/lemmataref3.special
  some Try.f98,  -- (*lemmata/rex.reader).ranges$1
  some Try.f99,  -- internal/stringslite.IndexByte
  some Try.f100,  -- internal/bytealg.IndexByteString
  none,  -- (runtime.boundsError).Error
  none,  -- (runtime.boundsError).RuntimeError
  none,  -- (runtime.errorString).Error
  none,  -- (runtime.errorString).RuntimeError
  none,  -- (runtime.plainError).Error
  none,  -- (runtime.plainError).RuntimeError
  none,  -- (runtime.errorAddressString).Error
  none,  -- (runtime.errorAddressString).RuntimeError
  none,  -- (*runtime.TypeAssertionError).Error
  none,  -- (*runtime.TypeAssertionError).RuntimeError
  none,  -- (*runtime.PanicNilError).Error
  none,  -- (*runtime.PanicNilError).RuntimeError
  none,  -- (*internal/abi.Type).Align
  none,  -- (internal/runtime/maps.unhashableTypeError).Error
  none,  -- (internal/runtime/maps.unhashableTypeError).RuntimeError
  none,  -- (*lemmata/lemmataplay.Picks).Over
  none]  -- (internal/abi.Kind).String
set_option maxHeartbeats 4000000 in
theorem tblF_eq : Try.prog.funcs.toList.map okFunc = tblF := by kernel_rfl
noncomputable def F : Nat → Option Func := tabF tblF
theorem hF : FuncsOk Try.prog F := tabF_ok tblF_eq
end Go.Proofs.Ytenpjkinpecnfaa
