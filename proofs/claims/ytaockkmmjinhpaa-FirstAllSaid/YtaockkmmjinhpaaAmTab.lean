/-
  The tables of types and functions of the program, as the abstract machine takes them.
-/
import Derived.Test.YtaockkmmjinhpaaProg
import Derived.Test.YtaockkmmjinhpaaAmP
import Derived.KernelRfl
namespace Go.Proofs.Ytaockkmmjinhpaa
open Go.Am
set_option maxRecDepth 100000
def tblT : List (Option TI) := [
  none,  -- 0
  some ⟨.func, 1, 8, [.nilFn], false⟩,  -- 1
  some ⟨(.int .i64), 1, 8, [(.int .i64 0)], false⟩,  -- 2
  some ⟨(.int .i64), 1, 8, [(.int .i64 0)], false⟩,  -- 3
  some ⟨.bool, 1, 1, [(.bool false)], false⟩,  -- 4
  some ⟨(.int .u8), 1, 1, [(.int .u8 0)], false⟩,  -- 5
  some ⟨(.int .u8), 1, 1, [(.int .u8 0)], false⟩,  -- 6
  some ⟨(.strct [(false, 2, 0), (false, 3, 1), (false, 4, 2), (false, 6, 3)]), 4, 24, [(.int .i64 0), (.int .i64 0), (.bool false), (.int .u8 0)], true⟩,  -- 7
  some ⟨(.strct [(false, 2, 0), (false, 3, 1), (false, 4, 2), (false, 6, 3)]), 4, 24, [(.int .i64 0), (.int .i64 0), (.bool false), (.int .u8 0)], true⟩,  -- 8
  some ⟨.str, 1, 16, [(.str [])], false⟩,  -- 9
  some ⟨.str, 1, 16, [(.str [])], false⟩,  -- 10
  some ⟨.str, 1, 16, [(.str [])], false⟩,  -- 11
  some ⟨(.int .u64), 1, 8, [(.int .u64 0)], false⟩,  -- 12
  some ⟨(.strct [(false, 9, 0), (false, 12, 1)]), 2, 24, [(.str []), (.int .u64 0)], false⟩,  -- 13
  some ⟨(.strct [(false, 9, 0), (false, 12, 1)]), 2, 24, [(.str []), (.int .u64 0)], false⟩,  -- 14
  some ⟨(.ptr 188), 1, 8, [(.ptr none)], false⟩,  -- 15
  some ⟨(.ptr 191), 1, 8, [(.ptr none)], false⟩,  -- 16
  some ⟨(.ptr 200), 1, 8, [(.ptr none)], false⟩,  -- 17
  some ⟨(.strct [(false, 17, 0)]), 1, 8, [(.ptr none)], false⟩,  -- 18
  some ⟨(.strct [(false, 17, 0)]), 1, 8, [(.ptr none)], false⟩,  -- 19
  some ⟨.iface, 1, 16, [.nilIface], false⟩,  -- 20
  some ⟨(.int .i32), 1, 4, [(.int .i32 0)], false⟩,  -- 21
  some ⟨(.slc 29), 1, 24, [(.slc none 0 (some 0) 0)], false⟩,  -- 22
  some ⟨.func, 1, 8, [.nilFn], false⟩,  -- 23
  some ⟨(.slc 39), 1, 24, [(.slc none 0 (some 0) 0)], false⟩,  -- 24
  some ⟨(.strct [(false, 9, 0), (false, 9, 1), (false, 24, 2)]), 3, 56, [(.str []), (.str []), (.slc none 0 (some 0) 0)], true⟩,  -- 25
  some ⟨(.strct [(false, 9, 0), (false, 9, 1), (false, 24, 2)]), 3, 56, [(.str []), (.str []), (.slc none 0 (some 0) 0)], true⟩,  -- 26
  some ⟨.func, 1, 8, [.nilFn], false⟩,  -- 27
  some ⟨(.strct [(false, 3, 0), (false, 3, 1), (false, 9, 2)]), 3, 32, [(.int .i64 0), (.int .i64 0), (.str [])], true⟩,  -- 28
  some ⟨(.strct [(false, 3, 0), (false, 3, 1), (false, 9, 2)]), 3, 32, [(.int .i64 0), (.int .i64 0), (.str [])], true⟩,  -- 29
  none,  -- 30
  some ⟨.func, 1, 8, [.nilFn], false⟩,  -- 31
  none,  -- 32
  some ⟨.func, 1, 8, [.nilFn], false⟩,  -- 33
  some ⟨.func, 1, 8, [.nilFn], false⟩,  -- 34
  some ⟨.func, 1, 8, [.nilFn], false⟩,  -- 35
  some ⟨.func, 1, 8, [.nilFn], false⟩,  -- 36
  some ⟨.func, 1, 8, [.nilFn], false⟩,  -- 37
  some ⟨(.strct [(false, 4, 0), (false, 3, 1), (false, 3, 2)]), 3, 24, [(.bool false), (.int .i64 0), (.int .i64 0)], true⟩,  -- 38
  some ⟨(.strct [(false, 4, 0), (false, 3, 1), (false, 3, 2)]), 3, 24, [(.bool false), (.int .i64 0), (.int .i64 0)], true⟩,  -- 39
  some ⟨.func, 1, 8, [.nilFn], false⟩,  -- 40
  some ⟨(.slc 9), 1, 24, [(.slc none 0 (some 0) 0)], false⟩,  -- 41
  some ⟨(.slc 3), 1, 24, [(.slc none 0 (some 0) 0)], false⟩,  -- 42
  some ⟨(.slc 44), 1, 24, [(.slc none 0 (some 0) 0)], false⟩,  -- 43
  some ⟨(.arr 3 5), 3, 3, [(.int .u8 0), (.int .u8 0), (.int .u8 0)], false⟩,  -- 44
  some ⟨.func, 1, 8, [.nilFn], false⟩,  -- 45
  some ⟨(.slc 57), 1, 24, [(.slc none 0 (some 0) 0)], false⟩,  -- 46
  some ⟨(.slc 59), 1, 24, [(.slc none 0 (some 0) 0)], false⟩,  -- 47
  some ⟨(.slc 63), 1, 24, [(.slc none 0 (some 0) 0)], false⟩,  -- 48
  some ⟨(.strct [(false, 46, 0), (false, 47, 1), (false, 48, 2)]), 3, 72, [(.slc none 0 (some 0) 0), (.slc none 0 (some 0) 0), (.slc none 0 (some 0) 0)], true⟩,  -- 49
  some ⟨(.strct [(false, 46, 0), (false, 47, 1), (false, 48, 2)]), 3, 72, [(.slc none 0 (some 0) 0), (.slc none 0 (some 0) 0), (.slc none 0 (some 0) 0)], true⟩,  -- 50
  some ⟨(.slc 5), 1, 24, [(.slc none 0 (some 0) 0)], false⟩,  -- 51
  some ⟨.func, 1, 8, [.nilFn], false⟩,  -- 52
  some ⟨(.ptr 125), 1, 8, [(.ptr none)], false⟩,  -- 53
  some ⟨.func, 1, 8, [.nilFn], false⟩,  -- 54
  some ⟨.func, 1, 8, [.nilFn], false⟩,  -- 55
  some ⟨(.strct [(false, 9, 0), (false, 9, 1), (false, 4, 2)]), 3, 40, [(.str []), (.str []), (.bool false)], true⟩,  -- 56
  some ⟨(.strct [(false, 9, 0), (false, 9, 1), (false, 4, 2)]), 3, 40, [(.str []), (.str []), (.bool false)], true⟩,  -- 57
  some ⟨(.strct [(false, 9, 0), (false, 41, 1), (false, 41, 2)]), 3, 64, [(.str []), (.slc none 0 (some 0) 0), (.slc none 0 (some 0) 0)], true⟩,  -- 58
  some ⟨(.strct [(false, 9, 0), (false, 41, 1), (false, 41, 2)]), 3, 64, [(.str []), (.slc none 0 (some 0) 0), (.slc none 0 (some 0) 0)], true⟩,  -- 59
  some ⟨(.slc 66), 1, 24, [(.slc none 0 (some 0) 0)], false⟩,  -- 60
  some ⟨(.slc 135), 1, 24, [(.slc none 0 (some 0) 0)], false⟩,  -- 61
  some ⟨(.strct [(false, 3, 0), (false, 60, 1), (false, 61, 2)]), 3, 56, [(.int .i64 0), (.slc none 0 (some 0) 0), (.slc none 0 (some 0) 0)], true⟩,  -- 62
  some ⟨(.strct [(false, 3, 0), (false, 60, 1), (false, 61, 2)]), 3, 56, [(.int .i64 0), (.slc none 0 (some 0) 0), (.slc none 0 (some 0) 0)], true⟩,  -- 63
  some ⟨(.ptr 63), 1, 8, [(.ptr none)], false⟩,  -- 64
  some ⟨(.strct [(false, 4, 0), (false, 3, 1)]), 2, 16, [(.bool false), (.int .i64 0)], true⟩,  -- 65
  some ⟨(.strct [(false, 4, 0), (false, 3, 1)]), 2, 16, [(.bool false), (.int .i64 0)], true⟩,  -- 66
  some ⟨.func, 1, 8, [.nilFn], false⟩,  -- 67
  some ⟨(.slc 50), 1, 24, [(.slc none 0 (some 0) 0)], false⟩,  -- 68
  some ⟨.func, 1, 8, [.nilFn], false⟩,  -- 69
  some ⟨.func, 1, 8, [.nilFn], false⟩,  -- 70
  some ⟨.func, 1, 8, [.nilFn], false⟩,  -- 71
  some ⟨.func, 1, 8, [.nilFn], false⟩,  -- 72
  some ⟨(.slc 4), 1, 24, [(.slc none 0 (some 0) 0)], false⟩,  -- 73
  some ⟨(.slc 73), 1, 24, [(.slc none 0 (some 0) 0)], false⟩,  -- 74
  some ⟨(.strct [(false, 73, 0), (false, 74, 1), (false, 74, 2)]), 3, 72, [(.slc none 0 (some 0) 0), (.slc none 0 (some 0) 0), (.slc none 0 (some 0) 0)], true⟩,  -- 75
  some ⟨(.strct [(false, 73, 0), (false, 74, 1), (false, 74, 2)]), 3, 72, [(.slc none 0 (some 0) 0), (.slc none 0 (some 0) 0), (.slc none 0 (some 0) 0)], true⟩,  -- 76
  some ⟨.func, 1, 8, [.nilFn], false⟩,  -- 77
  some ⟨.func, 1, 8, [.nilFn], false⟩,  -- 78
  some ⟨.func, 1, 8, [.nilFn], false⟩,  -- 79
  some ⟨.func, 1, 8, [.nilFn], false⟩,  -- 80
  some ⟨.func, 1, 8, [.nilFn], false⟩,  -- 81
  none,  -- 82
  some ⟨.func, 1, 8, [.nilFn], false⟩,  -- 83
  some ⟨.func, 1, 8, [.nilFn], false⟩,  -- 84
  some ⟨(.slc 98), 1, 24, [(.slc none 0 (some 0) 0)], false⟩,  -- 85
  some ⟨.func, 1, 8, [.nilFn], false⟩,  -- 86
  some ⟨(.slc 42), 1, 24, [(.slc none 0 (some 0) 0)], false⟩,  -- 87
  some ⟨(.slc 104), 1, 24, [(.slc none 0 (some 0) 0)], false⟩,  -- 88
  none,  -- 89
  some ⟨.func, 1, 8, [.nilFn], false⟩,  -- 90
  some ⟨(.slc 170), 1, 24, [(.slc none 0 (some 0) 0)], false⟩,  -- 91
  some ⟨(.strct [(false, 91, 0), (false, 3, 1)]), 2, 32, [(.slc none 0 (some 0) 0), (.int .i64 0)], true⟩,  -- 92
  some ⟨(.strct [(false, 91, 0), (false, 3, 1)]), 2, 32, [(.slc none 0 (some 0) 0), (.int .i64 0)], true⟩,  -- 93
  some ⟨(.int .i64), 1, 8, [(.int .i64 0)], false⟩,  -- 94
  none,  -- 95
  some ⟨.func, 1, 8, [.nilFn], false⟩,  -- 96
  some ⟨(.strct [(false, 3, 0), (false, 9, 1)]), 2, 24, [(.int .i64 0), (.str [])], true⟩,  -- 97
  some ⟨(.strct [(false, 3, 0), (false, 9, 1)]), 2, 24, [(.int .i64 0), (.str [])], true⟩,  -- 98
  some ⟨.func, 1, 8, [.nilFn], false⟩,  -- 99
  some ⟨.func, 1, 8, [.nilFn], false⟩,  -- 100
  some ⟨.func, 1, 8, [.nilFn], false⟩,  -- 101
  some ⟨.func, 1, 8, [.nilFn], false⟩,  -- 102
  some ⟨(.strct [(false, 3, 0), (false, 3, 1), (false, 3, 2), (false, 3, 3)]), 4, 32, [(.int .i64 0), (.int .i64 0), (.int .i64 0), (.int .i64 0)], true⟩,  -- 103
  some ⟨(.strct [(false, 3, 0), (false, 3, 1), (false, 3, 2), (false, 3, 3)]), 4, 32, [(.int .i64 0), (.int .i64 0), (.int .i64 0), (.int .i64 0)], true⟩,  -- 104
  some ⟨.func, 1, 8, [.nilFn], false⟩,  -- 105
  some ⟨.func, 1, 8, [.nilFn], false⟩,  -- 106
  none,  -- 107
  some ⟨.func, 1, 8, [.nilFn], false⟩,  -- 108
  some ⟨.func, 1, 8, [.nilFn], false⟩,  -- 109
  some ⟨(.ptr 112), 1, 8, [(.ptr none)], false⟩,  -- 110
  some ⟨(.strct [(false, 110, 0), (false, 51, 1)]), 2, 32, [(.ptr none), (.slc none 0 (some 0) 0)], true⟩,  -- 111
  some ⟨(.strct [(false, 110, 0), (false, 51, 1)]), 2, 32, [(.ptr none), (.slc none 0 (some 0) 0)], true⟩,  -- 112
  some ⟨.func, 1, 8, [.nilFn], false⟩,  -- 113
  some ⟨.func, 1, 8, [.nilFn], false⟩,  -- 114
  some ⟨.func, 1, 8, [.nilFn], false⟩,  -- 115
  some ⟨.iface, 1, 16, [.nilIface], false⟩,  -- 116
  some ⟨.iface, 1, 16, [.nilIface], false⟩,  -- 117
  none,  -- 118
  some ⟨.func, 1, 8, [.nilFn], false⟩,  -- 119
  some ⟨.func, 1, 8, [.nilFn], false⟩,  -- 120
  some ⟨.func, 1, 8, [.nilFn], false⟩,  -- 121
  some ⟨.func, 1, 8, [.nilFn], false⟩,  -- 122
  some ⟨.func, 1, 8, [.nilFn], false⟩,  -- 123
  some ⟨(.strct [(false, 51, 0), (false, 3, 1)]), 2, 32, [(.slc none 0 (some 0) 0), (.int .i64 0)], true⟩,  -- 124
  some ⟨(.strct [(false, 51, 0), (false, 3, 1)]), 2, 32, [(.slc none 0 (some 0) 0), (.int .i64 0)], true⟩,  -- 125
  some ⟨.func, 1, 8, [.nilFn], false⟩,  -- 126
  some ⟨(.slc 129), 1, 24, [(.slc none 0 (some 0) 0)], false⟩,  -- 127
  some ⟨(.strct [(false, 3, 0), (false, 2, 1), (false, 9, 2), (false, 127, 3)]), 4, 56, [(.int .i64 0), (.int .i64 0), (.str []), (.slc none 0 (some 0) 0)], true⟩,  -- 128
  some ⟨(.strct [(false, 3, 0), (false, 2, 1), (false, 9, 2), (false, 127, 3)]), 4, 56, [(.int .i64 0), (.int .i64 0), (.str []), (.slc none 0 (some 0) 0)], true⟩,  -- 129
  some ⟨(.slc 132), 1, 24, [(.slc none 0 (some 0) 0)], false⟩,  -- 130
  some ⟨(.strct [(false, 3, 0), (false, 129, 1), (false, 3, 5), (false, 3, 6), (false, 130, 7)]), 8, 104, [(.int .i64 0), (.int .i64 0), (.int .i64 0), (.str []), (.slc none 0 (some 0) 0), (.int .i64 0), (.int .i64 0), (.slc none 0 (some 0) 0)], true⟩,  -- 131
  some ⟨(.strct [(false, 3, 0), (false, 129, 1), (false, 3, 5), (false, 3, 6), (false, 130, 7)]), 8, 104, [(.int .i64 0), (.int .i64 0), (.int .i64 0), (.str []), (.slc none 0 (some 0) 0), (.int .i64 0), (.int .i64 0), (.slc none 0 (some 0) 0)], true⟩,  -- 132
  some ⟨.func, 1, 8, [.nilFn], false⟩,  -- 133
  some ⟨(.strct [(false, 3, 0), (false, 3, 1), (false, 132, 2)]), 10, 120, [(.int .i64 0), (.int .i64 0), (.int .i64 0), (.int .i64 0), (.int .i64 0), (.str []), (.slc none 0 (some 0) 0), (.int .i64 0), (.int .i64 0), (.slc none 0 (some 0) 0)], true⟩,  -- 134
  some ⟨(.strct [(false, 3, 0), (false, 3, 1), (false, 132, 2)]), 10, 120, [(.int .i64 0), (.int .i64 0), (.int .i64 0), (.int .i64 0), (.int .i64 0), (.str []), (.slc none 0 (some 0) 0), (.int .i64 0), (.int .i64 0), (.slc none 0 (some 0) 0)], true⟩,  -- 135
  some ⟨.func, 1, 8, [.nilFn], false⟩,  -- 136
  some ⟨.func, 1, 8, [.nilFn], false⟩,  -- 137
  some ⟨.func, 1, 8, [.nilFn], false⟩,  -- 138
  some ⟨.func, 1, 8, [.nilFn], false⟩,  -- 139
  some ⟨.func, 1, 8, [.nilFn], false⟩,  -- 140
  some ⟨.func, 1, 8, [.nilFn], false⟩,  -- 141
  some ⟨.func, 1, 8, [.nilFn], false⟩,  -- 142
  some ⟨.func, 1, 8, [.nilFn], false⟩,  -- 143
  some ⟨.func, 1, 8, [.nilFn], false⟩,  -- 144
  some ⟨.func, 1, 8, [.nilFn], false⟩,  -- 145
  some ⟨.func, 1, 8, [.nilFn], false⟩,  -- 146
  some ⟨.func, 1, 8, [.nilFn], false⟩,  -- 147
  some ⟨.func, 1, 8, [.nilFn], false⟩,  -- 148
  some ⟨.func, 1, 8, [.nilFn], false⟩,  -- 149
  some ⟨.func, 1, 8, [.nilFn], false⟩,  -- 150
  some ⟨.func, 1, 8, [.nilFn], false⟩,  -- 151
  some ⟨.func, 1, 8, [.nilFn], false⟩,  -- 152
  some ⟨.func, 1, 8, [.nilFn], false⟩,  -- 153
  some ⟨.func, 1, 8, [.nilFn], false⟩,  -- 154
  some ⟨.func, 1, 8, [.nilFn], false⟩,  -- 155
  some ⟨.func, 1, 8, [.nilFn], false⟩,  -- 156
  some ⟨.func, 1, 8, [.nilFn], false⟩,  -- 157
  some ⟨.func, 1, 8, [.nilFn], false⟩,  -- 158
  some ⟨.func, 1, 8, [.nilFn], false⟩,  -- 159
  none,  -- 160
  some ⟨.func, 1, 8, [.nilFn], false⟩,  -- 161
  some ⟨(.ptr 164), 1, 8, [(.ptr none)], false⟩,  -- 162
  some ⟨(.strct [(false, 50, 0), (false, 87, 3), (false, 85, 4), (false, 3, 5), (false, 93, 6), (false, 94, 8)]), 9, 168, [(.slc none 0 (some 0) 0), (.slc none 0 (some 0) 0), (.slc none 0 (some 0) 0), (.slc none 0 (some 0) 0), (.slc none 0 (some 0) 0), (.int .i64 0), (.slc none 0 (some 0) 0), (.int .i64 0), (.int .i64 0)], true⟩,  -- 163
  some ⟨(.strct [(false, 50, 0), (false, 87, 3), (false, 85, 4), (false, 3, 5), (false, 93, 6), (false, 94, 8)]), 9, 168, [(.slc none 0 (some 0) 0), (.slc none 0 (some 0) 0), (.slc none 0 (some 0) 0), (.slc none 0 (some 0) 0), (.slc none 0 (some 0) 0), (.int .i64 0), (.slc none 0 (some 0) 0), (.int .i64 0), (.int .i64 0)], true⟩,  -- 164
  some ⟨.func, 1, 8, [.nilFn], false⟩,  -- 165
  some ⟨.func, 1, 8, [.nilFn], false⟩,  -- 166
  some ⟨(.slc 171), 1, 24, [(.slc none 0 (some 0) 0)], false⟩,  -- 167
  some ⟨.func, 1, 8, [.nilFn], false⟩,  -- 168
  some ⟨(.strct [(false, 3, 0), (false, 3, 1), (false, 3, 2), (false, 9, 3), (false, 42, 4)]), 5, 64, [(.int .i64 0), (.int .i64 0), (.int .i64 0), (.str []), (.slc none 0 (some 0) 0)], true⟩,  -- 169
  some ⟨(.strct [(false, 3, 0), (false, 3, 1), (false, 3, 2), (false, 9, 3), (false, 42, 4)]), 5, 64, [(.int .i64 0), (.int .i64 0), (.int .i64 0), (.str []), (.slc none 0 (some 0) 0)], true⟩,  -- 170
  some ⟨(.arr 2 3), 2, 16, [(.int .i64 0), (.int .i64 0)], false⟩,  -- 171
  some ⟨.func, 1, 8, [.nilFn], false⟩,  -- 172
  some ⟨(.ptr 5), 1, 8, [(.ptr none)], false⟩,  -- 173
  some ⟨.func, 1, 8, [.nilFn], false⟩,  -- 174
  some ⟨.func, 1, 8, [.nilFn], false⟩,  -- 175
  some ⟨(.slc 41), 1, 24, [(.slc none 0 (some 0) 0)], false⟩,  -- 176
  some ⟨.func, 1, 8, [.nilFn], false⟩,  -- 177
  some ⟨.func, 1, 8, [.nilFn], false⟩,  -- 178
  some ⟨.func, 1, 8, [.nilFn], false⟩,  -- 179
  some ⟨.func, 1, 8, [.nilFn], false⟩,  -- 180
  some ⟨.func, 1, 8, [.nilFn], false⟩,  -- 181
  some ⟨.func, 1, 8, [.nilFn], false⟩,  -- 182
  some ⟨.other, 1, 8, [(.ptr none)], false⟩,  -- 183
  some ⟨.func, 1, 8, [.nilFn], false⟩,  -- 184
  some ⟨(.map 9 4), 1, 8, [(.map none)], false⟩,  -- 185
  some ⟨.func, 1, 8, [.nilFn], false⟩,  -- 186
  some ⟨(.strct [(false, 17, 0), (false, 17, 1), (false, 17, 2), (false, 9, 3)]), 4, 40, [(.ptr none), (.ptr none), (.ptr none), (.str [])], false⟩,  -- 187
  some ⟨(.strct [(false, 17, 0), (false, 17, 1), (false, 17, 2), (false, 9, 3)]), 4, 40, [(.ptr none), (.ptr none), (.ptr none), (.str [])], false⟩,  -- 188
  some ⟨(.arr 0 16), 0, 0, [], false⟩,  -- 189
  some ⟨(.strct [(true, 189, 0)]), 0, 0, [], false⟩,  -- 190
  some ⟨(.strct [(true, 189, 0)]), 0, 0, [], false⟩,  -- 191
  some ⟨.func, 1, 8, [.nilFn], false⟩,  -- 192
  some ⟨(.int .u32), 1, 4, [(.int .u32 0)], false⟩,  -- 193
  some ⟨(.int .u8), 1, 1, [(.int .u8 0)], false⟩,  -- 194
  some ⟨(.int .u8), 1, 1, [(.int .u8 0)], false⟩,  -- 195
  some ⟨.func, 1, 8, [.nilFn], false⟩,  -- 196
  some ⟨(.int .i32), 1, 4, [(.int .i32 0)], false⟩,  -- 197
  some ⟨(.int .i32), 1, 4, [(.int .i32 0)], false⟩,  -- 198
  some ⟨(.strct [(false, 12, 0), (false, 12, 1), (false, 193, 2), (false, 194, 3), (false, 5, 4), (false, 5, 5), (false, 195, 6), (false, 196, 7), (false, 173, 8), (false, 197, 9), (false, 198, 10)]), 11, 48, [(.int .u64 0), (.int .u64 0), (.int .u32 0), (.int .u8 0), (.int .u8 0), (.int .u8 0), (.int .u8 0), .nilFn, (.ptr none), (.int .i32 0), (.int .i32 0)], false⟩,  -- 199
  some ⟨(.strct [(false, 12, 0), (false, 12, 1), (false, 193, 2), (false, 194, 3), (false, 5, 4), (false, 5, 5), (false, 195, 6), (false, 196, 7), (false, 173, 8), (false, 197, 9), (false, 198, 10)]), 11, 48, [(.int .u64 0), (.int .u64 0), (.int .u32 0), (.int .u8 0), (.int .u8 0), (.int .u8 0), (.int .u8 0), .nilFn, (.ptr none), (.int .i32 0), (.int .i32 0)], false⟩]  -- 200
set_option maxHeartbeats 4000000 in
theorem tblT_eq : (List.range 201).map (mkTI Try.prog) = tblT := by kernel_rfl
def T : TT := tabT tblT
theorem hT : TypesOk Try.prog T := tabT_ok tblT_eq
noncomputable def tblF : List (Option Func) := [
  none,  -- main.main
  none,  -- gosem.cut
  some Try.f2,  -- gosem.cut.init
  some Try.f3,  -- lemmata/lemmatalaw8.PieceAll
  some Try.f4,  -- lemmata/lemmatalaw8.PieceMay
  some Try.f5,  -- lemmata/lemmatalaw8.PieceForms
  some Try.f6,  -- lemmata/lemmatalaw8.PieceBack
  some Try.f7,  -- lemmata/lemmatalaw11.GramAll
  some Try.f8,  -- lemmata/lemmatalaw11.GramOffset
  some Try.f9,  -- lemmata/lemmatalaw12.FirstAll
  some Try.f10,  -- lemmata/lemmatalaw12.FirstTrue
  some Try.f11,  -- lemmata/lemmatalaw12.FirstMore
  some Try.f12,  -- lemmata/lemmatalaw12.FirstRow
  some Try.f13,  -- lemmata/lemmatalaw13.LlAll
  some Try.f14,  -- lemmata/lemmatalaw13.LlClash
  some Try.f15,  -- lemmata/lemmatalaw13.LlNone
  some Try.f16,  -- lemmata/lemmatalaw8.begun
  some Try.f17,  -- lemmata/piece.Open
  some Try.f18,  -- lemmata/piece.Splice
  some Try.f19,  -- lemmata/lemmataref3.Splice
  some Try.f20,  -- lemmata/piece.Text
  some Try.f21,  -- lemmata/piece.Len
  some Try.f22,  -- lemmata/piece.May
  some Try.f23,  -- lemmata/lemmatalaw11.begun
  some Try.f24,  -- lemmata/lemmatalaw11.Light
  some Try.f25,  -- lemmata/lemmataplay.Made
  some Try.f26,  -- (*lemmata/lemmataplay.Picks).Grammar
  some Try.f27,  -- lemmata/lemmataplay.Sums
  some Try.f28,  -- lemmata/gram.May
  some Try.f29,  -- lemmata/lemmataref11.May
  some Try.f30,  -- lemmata/gram.Same
  some Try.f31,  -- lemmata/lemmataref11.Same
  some Try.f32,  -- lemmata/gram.Offset
  some Try.f33,  -- lemmata/lemmataref11.Offset
  some Try.f34,  -- lemmata/lemmatalaw12.begun
  some Try.f35,  -- lemmata/lemmataref11.Reckon
  some Try.f36,  -- lemmata/lemmatalaw12.sameRow
  some Try.f37,  -- lemmata/first.Nullable
  some Try.f38,  -- lemmata/lemmatalaw12.sameRows
  some Try.f39,  -- lemmata/first.First
  some Try.f40,  -- lemmata/first.Follow
  some Try.f41,  -- lemmata/first.Row
  some Try.f42,  -- (lemmata/lemmataref11.Sets).Row
  some Try.f43,  -- (*lemmata/lemmataplay.Picks).Leaves
  some Try.f44,  -- lemmata/lemmataref11.Table
  some Try.f45,  -- lemmata/lemmataref11.Parse
  some Try.f46,  -- lemmata/lemmatalaw12.stands
  some Try.f47,  -- (*lemmata/lemmataplay.Picks).Num
  some Try.f48,  -- lemmata/lemmatalaw12.within
  some Try.f49,  -- lemmata/lemmatalaw13.begun
  some Try.f50,  -- lemmata/ll.Table
  some Try.f51,  -- (lemmata/lemmataref11.Sets).Meant
  some Try.f52,  -- slices.Clone[[]lemmata/api.Piece,lemmata/api.Piece]
  some Try.f53,  -- lemmata/piece.cut
  some Try.f54,  -- lemmata/lemmataref3.MaySplice
  some Try.f55,  -- (lemmata/piece.Table).pieces
  some Try.f56,  -- (*strings.Builder).WriteString
  some Try.f57,  -- (*strings.Builder).String
  some Try.f58,  -- slices.ContainsFunc[[]lemmata/api.Piece,lemmata/api.Piece]
  some Try.f59,  -- lemmata/piece.May$1
  some Try.f60,  -- (lemmata/piece.Table).text
  some Try.f61,  -- (*lemmata/lemmataplay.Picks).rules
  some Try.f62,  -- lemmata/lemmataplay.con
  some Try.f63,  -- lemmata/lemmataplay.ref
  some Try.f64,  -- lemmata/lemmataplay.tok
  some Try.f65,  -- lemmata/gram.within[lemmata/api.Tok]
  some Try.f66,  -- lemmata/gram.within[lemmata/api.Nt]
  some Try.f67,  -- lemmata/gram.within[lemmata/api.Prod]
  some Try.f68,  -- slices.Concat[[]string,string]
  some Try.f69,  -- lemmata/gram.names
  some Try.f70,  -- slices.ContainsFunc[[]lemmata/api.Prod,lemmata/api.Prod]
  some Try.f71,  -- lemmata/gram.May$1
  some Try.f72,  -- lemmata/gram.prod
  some Try.f73,  -- lemmata/lemmataref11.unlike
  some Try.f74,  -- slices.Equal[[]lemmata/api.Tok,lemmata/api.Tok]
  some Try.f75,  -- slices.EqualFunc[[]lemmata/api.Nt,[]lemmata/api.Nt,lemmata/api.Nt,lemmata/api.Nt]
  some Try.f76,  -- lemmata/gram.Same$1
  some Try.f77,  -- slices.Equal[[]string,string]
  some Try.f78,  -- slices.EqualFunc[[]lemmata/api.Prod,[]lemmata/api.Prod,lemmata/api.Prod,lemmata/api.Prod]
  some Try.f79,  -- lemmata/gram.Same$2
  some Try.f80,  -- slices.Equal[[]lemmata/api.Sym,lemmata/api.Sym]
  some Try.f81,  -- lemmata/lemmataref11.sameNames
  some Try.f82,  -- lemmata/lemmataref11.SameRight
  some Try.f83,  -- (lemmata/lemmataref11.Sets).behind
  some Try.f84,  -- lemmata/first.grows
  some Try.f85,  -- lemmata/first.Nullable$1
  some Try.f86,  -- slices.ContainsFunc[[]lemmata/api.Sym,lemmata/api.Sym]
  some Try.f87,  -- lemmata/first.Nullable$1$1
  some Try.f88,  -- lemmata/first.set
  some Try.f89,  -- lemmata/first.sets
  some Try.f90,  -- lemmata/first.First$1
  some Try.f91,  -- lemmata/first.begins
  some Try.f92,  -- lemmata/first.union
  some Try.f93,  -- lemmata/first.Follow$1
  some Try.f94,  -- (*lemmata/lemmataplay.Picks).derive
  some Try.f95,  -- (*lemmata/lemmataref11.maker).symbol
  some Try.f96,  -- lemmata/lemmataref11.Leaves
  some Try.f97,  -- lemmata/lemmataref11.Spans
  some Try.f98,  -- (lemmata/piece.Table).pieces$1
  some Try.f99,  -- (*strings.Builder).copyCheck
  some Try.f100,  -- slices.IndexFunc[[]lemmata/api.Piece,lemmata/api.Piece]
  some Try.f101,  -- lemmata/lemmataref17.Count
  some Try.f102,  -- lemmata/lemmataref17.IsInh
  some Try.f103,  -- slices.Grow[[]string,string]
  some Try.f104,  -- lemmata/gram.unlike[string]
  some Try.f105,  -- slices.ContainsFunc[[]string,string]
  some Try.f106,  -- lemmata/gram.names$1
  some Try.f107,  -- lemmata/gram.name
  some Try.f108,  -- slices.IndexFunc[[]lemmata/api.Prod,lemmata/api.Prod]
  some Try.f109,  -- lemmata/gram.prod$1
  some Try.f110,  -- lemmata/gram.sym
  some Try.f111,  -- lemmata/lemmataref11.mayName
  some Try.f112,  -- slices.IndexFunc[[]lemmata/api.Sym,lemmata/api.Sym]
  some Try.f113,  -- lemmata/lemmataref11.Ends
  none,  -- internal/abi.NoEscape
  some Try.f115,  -- slices.IndexFunc[[]string,string]
  none,  -- (runtime.boundsError).Error
  none,  -- (runtime.boundsError).RuntimeError
  none,  -- (runtime.errorString).Error
  none,  -- (runtime.errorString).RuntimeError
  none,  -- (runtime.plainError).Error
  none,  -- (runtime.plainError).RuntimeError
  none,  -- (runtime.errorAddressString).Error
  none,  -- (runtime.errorAddressString).RuntimeError
  none,  -- (*runtime.TypeAssertionError).Error
  none,  -- (*runtime.TypeAssertionError).RuntimeError
  none,  -- (*runtime.PanicNilError).Error
  none,  -- (*runtime.PanicNilError).RuntimeError
  none,  -- (*internal/abi.Type).Align
  none,  -- (internal/runtime/maps.unhashableTypeError).Error
  none,  -- (internal/runtime/maps.unhashableTypeError).RuntimeError
  none,  -- (*lemmata/lemmataplay.Picks).Over
  none,  -- (*strings.Builder).Reset
  none]  -- (internal/abi.Kind).String
set_option maxHeartbeats 4000000 in
theorem tblF_eq : Try.prog.funcs.toList.map okFunc = tblF := by kernel_rfl
noncomputable def F : Nat → Option Func := tabF tblF
theorem hF : FuncsOk Try.prog F := tabF_ok tblF_eq
end Go.Proofs.Ytaockkmmjinhpaa
