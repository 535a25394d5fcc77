/-
  The tables of types and functions of the program, as the abstract machine takes them.
-/
import Derived.Test.YtmiicjaepddhoaaProg
import Derived.Test.YtmiicjaepddhoaaAmP
import Derived.KernelRfl
namespace Go.Proofs.Ytmiicjaepddhoaa
open Go.Am
set_option maxRecDepth 100000
def tblT : List (Option TI) := [
  none,  -- 0
  some ⟨.func, 1, 8, [.nilFn], false⟩,  -- 1
  some ⟨(.int .i64), 1, 8, [(.int .i64 0)], false⟩,  -- 2
  some ⟨(.int .i64), 1, 8, [(.int .i64 0)], false⟩,  -- 3
  some ⟨.bool, 1, 1, [(.bool false)], false⟩,  -- 4
  some ⟨(.int .u8), 1, 1, [(.int .u8 0)], false⟩,  -- 5
  some ⟨(.int .u8), 1, 1, [(.int .u8 0)], false⟩,  -- 6
  some ⟨(.strct [(false, 2, 0), (false, 3, 1), (false, 4, 2), (false, 6, 3)]), 4, 24, [(.int .i64 0), (.int .i64 0), (.bool false), (.int .u8 0)], true⟩,  -- 7
  some ⟨(.strct [(false, 2, 0), (false, 3, 1), (false, 4, 2), (false, 6, 3)]), 4, 24, [(.int .i64 0), (.int .i64 0), (.bool false), (.int .u8 0)], true⟩,  -- 8
  some ⟨.str, 1, 16, [(.str [])], false⟩,  -- 9
  some ⟨.str, 1, 16, [(.str [])], false⟩,  -- 10
  some ⟨.str, 1, 16, [(.str [])], false⟩,  -- 11
  some ⟨(.int .u64), 1, 8, [(.int .u64 0)], false⟩,  -- 12
  some ⟨(.strct [(false, 9, 0), (false, 12, 1)]), 2, 24, [(.str []), (.int .u64 0)], false⟩,  -- 13
  some ⟨(.strct [(false, 9, 0), (false, 12, 1)]), 2, 24, [(.str []), (.int .u64 0)], false⟩,  -- 14
  some ⟨(.ptr 148), 1, 8, [(.ptr none)], false⟩,  -- 15
  some ⟨(.ptr 151), 1, 8, [(.ptr none)], false⟩,  -- 16
  some ⟨(.ptr 161), 1, 8, [(.ptr none)], false⟩,  -- 17
  some ⟨(.strct [(false, 17, 0)]), 1, 8, [(.ptr none)], false⟩,  -- 18
  some ⟨(.strct [(false, 17, 0)]), 1, 8, [(.ptr none)], false⟩,  -- 19
  some ⟨.iface, 1, 16, [.nilIface], false⟩,  -- 20
  some ⟨(.int .i32), 1, 4, [(.int .i32 0)], false⟩,  -- 21
  some ⟨(.slc 34), 1, 24, [(.slc none 0 (some 0) 0)], false⟩,  -- 22
  some ⟨(.slc 37), 1, 24, [(.slc none 0 (some 0) 0)], false⟩,  -- 23
  some ⟨(.slc 41), 1, 24, [(.slc none 0 (some 0) 0)], false⟩,  -- 24
  some ⟨(.strct [(false, 22, 0), (false, 23, 1), (false, 24, 2)]), 3, 72, [(.slc none 0 (some 0) 0), (.slc none 0 (some 0) 0), (.slc none 0 (some 0) 0)], true⟩,  -- 25
  some ⟨(.strct [(false, 22, 0), (false, 23, 1), (false, 24, 2)]), 3, 72, [(.slc none 0 (some 0) 0), (.slc none 0 (some 0) 0), (.slc none 0 (some 0) 0)], true⟩,  -- 26
  some ⟨(.slc 5), 1, 24, [(.slc none 0 (some 0) 0)], false⟩,  -- 27
  some ⟨.func, 1, 8, [.nilFn], false⟩,  -- 28
  some ⟨.func, 1, 8, [.nilFn], false⟩,  -- 29
  some ⟨(.ptr 88), 1, 8, [(.ptr none)], false⟩,  -- 30
  some ⟨.func, 1, 8, [.nilFn], false⟩,  -- 31
  some ⟨.func, 1, 8, [.nilFn], false⟩,  -- 32
  some ⟨(.strct [(false, 9, 0), (false, 9, 1), (false, 4, 2)]), 3, 40, [(.str []), (.str []), (.bool false)], true⟩,  -- 33
  some ⟨(.strct [(false, 9, 0), (false, 9, 1), (false, 4, 2)]), 3, 40, [(.str []), (.str []), (.bool false)], true⟩,  -- 34
  some ⟨(.slc 9), 1, 24, [(.slc none 0 (some 0) 0)], false⟩,  -- 35
  some ⟨(.strct [(false, 9, 0), (false, 35, 1), (false, 35, 2)]), 3, 64, [(.str []), (.slc none 0 (some 0) 0), (.slc none 0 (some 0) 0)], true⟩,  -- 36
  some ⟨(.strct [(false, 9, 0), (false, 35, 1), (false, 35, 2)]), 3, 64, [(.str []), (.slc none 0 (some 0) 0), (.slc none 0 (some 0) 0)], true⟩,  -- 37
  some ⟨(.slc 44), 1, 24, [(.slc none 0 (some 0) 0)], false⟩,  -- 38
  some ⟨(.slc 98), 1, 24, [(.slc none 0 (some 0) 0)], false⟩,  -- 39
  some ⟨(.strct [(false, 3, 0), (false, 38, 1), (false, 39, 2)]), 3, 56, [(.int .i64 0), (.slc none 0 (some 0) 0), (.slc none 0 (some 0) 0)], true⟩,  -- 40
  some ⟨(.strct [(false, 3, 0), (false, 38, 1), (false, 39, 2)]), 3, 56, [(.int .i64 0), (.slc none 0 (some 0) 0), (.slc none 0 (some 0) 0)], true⟩,  -- 41
  some ⟨(.ptr 41), 1, 8, [(.ptr none)], false⟩,  -- 42
  some ⟨(.strct [(false, 4, 0), (false, 3, 1)]), 2, 16, [(.bool false), (.int .i64 0)], true⟩,  -- 43
  some ⟨(.strct [(false, 4, 0), (false, 3, 1)]), 2, 16, [(.bool false), (.int .i64 0)], true⟩,  -- 44
  some ⟨.func, 1, 8, [.nilFn], false⟩,  -- 45
  some ⟨(.slc 26), 1, 24, [(.slc none 0 (some 0) 0)], false⟩,  -- 46
  some ⟨.func, 1, 8, [.nilFn], false⟩,  -- 47
  some ⟨(.slc 3), 1, 24, [(.slc none 0 (some 0) 0)], false⟩,  -- 48
  some ⟨.func, 1, 8, [.nilFn], false⟩,  -- 49
  some ⟨.func, 1, 8, [.nilFn], false⟩,  -- 50
  some ⟨.func, 1, 8, [.nilFn], false⟩,  -- 51
  some ⟨(.slc 4), 1, 24, [(.slc none 0 (some 0) 0)], false⟩,  -- 52
  some ⟨(.slc 52), 1, 24, [(.slc none 0 (some 0) 0)], false⟩,  -- 53
  some ⟨(.strct [(false, 52, 0), (false, 53, 1), (false, 53, 2)]), 3, 72, [(.slc none 0 (some 0) 0), (.slc none 0 (some 0) 0), (.slc none 0 (some 0) 0)], true⟩,  -- 54
  some ⟨(.strct [(false, 52, 0), (false, 53, 1), (false, 53, 2)]), 3, 72, [(.slc none 0 (some 0) 0), (.slc none 0 (some 0) 0), (.slc none 0 (some 0) 0)], true⟩,  -- 55
  some ⟨.func, 1, 8, [.nilFn], false⟩,  -- 56
  some ⟨.func, 1, 8, [.nilFn], false⟩,  -- 57
  some ⟨.func, 1, 8, [.nilFn], false⟩,  -- 58
  some ⟨.func, 1, 8, [.nilFn], false⟩,  -- 59
  some ⟨.func, 1, 8, [.nilFn], false⟩,  -- 60
  none,  -- 61
  some ⟨.func, 1, 8, [.nilFn], false⟩,  -- 62
  some ⟨.func, 1, 8, [.nilFn], false⟩,  -- 63
  some ⟨(.slc 77), 1, 24, [(.slc none 0 (some 0) 0)], false⟩,  -- 64
  some ⟨.func, 1, 8, [.nilFn], false⟩,  -- 65
  some ⟨(.slc 48), 1, 24, [(.slc none 0 (some 0) 0)], false⟩,  -- 66
  some ⟨(.slc 83), 1, 24, [(.slc none 0 (some 0) 0)], false⟩,  -- 67
  none,  -- 68
  some ⟨.func, 1, 8, [.nilFn], false⟩,  -- 69
  some ⟨(.slc 133), 1, 24, [(.slc none 0 (some 0) 0)], false⟩,  -- 70
  some ⟨(.strct [(false, 70, 0), (false, 3, 1)]), 2, 32, [(.slc none 0 (some 0) 0), (.int .i64 0)], true⟩,  -- 71
  some ⟨(.strct [(false, 70, 0), (false, 3, 1)]), 2, 32, [(.slc none 0 (some 0) 0), (.int .i64 0)], true⟩,  -- 72
  some ⟨(.int .i64), 1, 8, [(.int .i64 0)], false⟩,  -- 73
  none,  -- 74
  some ⟨.func, 1, 8, [.nilFn], false⟩,  -- 75
  some ⟨(.strct [(false, 3, 0), (false, 9, 1)]), 2, 24, [(.int .i64 0), (.str [])], true⟩,  -- 76
  some ⟨(.strct [(false, 3, 0), (false, 9, 1)]), 2, 24, [(.int .i64 0), (.str [])], true⟩,  -- 77
  some ⟨.func, 1, 8, [.nilFn], false⟩,  -- 78
  some ⟨.func, 1, 8, [.nilFn], false⟩,  -- 79
  some ⟨.func, 1, 8, [.nilFn], false⟩,  -- 80
  some ⟨.func, 1, 8, [.nilFn], false⟩,  -- 81
  some ⟨(.strct [(false, 3, 0), (false, 3, 1), (false, 3, 2), (false, 3, 3)]), 4, 32, [(.int .i64 0), (.int .i64 0), (.int .i64 0), (.int .i64 0)], true⟩,  -- 82
  some ⟨(.strct [(false, 3, 0), (false, 3, 1), (false, 3, 2), (false, 3, 3)]), 4, 32, [(.int .i64 0), (.int .i64 0), (.int .i64 0), (.int .i64 0)], true⟩,  -- 83
  some ⟨.func, 1, 8, [.nilFn], false⟩,  -- 84
  some ⟨(.slc 24), 1, 24, [(.slc none 0 (some 0) 0)], false⟩,  -- 85
  some ⟨(.slc 67), 1, 24, [(.slc none 0 (some 0) 0)], false⟩,  -- 86
  some ⟨(.strct [(false, 27, 0), (false, 3, 1)]), 2, 32, [(.slc none 0 (some 0) 0), (.int .i64 0)], true⟩,  -- 87
  some ⟨(.strct [(false, 27, 0), (false, 3, 1)]), 2, 32, [(.slc none 0 (some 0) 0), (.int .i64 0)], true⟩,  -- 88
  some ⟨.func, 1, 8, [.nilFn], false⟩,  -- 89
  some ⟨(.slc 92), 1, 24, [(.slc none 0 (some 0) 0)], false⟩,  -- 90
  some ⟨(.strct [(false, 3, 0), (false, 2, 1), (false, 9, 2), (false, 90, 3)]), 4, 56, [(.int .i64 0), (.int .i64 0), (.str []), (.slc none 0 (some 0) 0)], true⟩,  -- 91
  some ⟨(.strct [(false, 3, 0), (false, 2, 1), (false, 9, 2), (false, 90, 3)]), 4, 56, [(.int .i64 0), (.int .i64 0), (.str []), (.slc none 0 (some 0) 0)], true⟩,  -- 92
  some ⟨(.slc 95), 1, 24, [(.slc none 0 (some 0) 0)], false⟩,  -- 93
  some ⟨(.strct [(false, 3, 0), (false, 92, 1), (false, 3, 5), (false, 3, 6), (false, 93, 7)]), 8, 104, [(.int .i64 0), (.int .i64 0), (.int .i64 0), (.str []), (.slc none 0 (some 0) 0), (.int .i64 0), (.int .i64 0), (.slc none 0 (some 0) 0)], true⟩,  -- 94
  some ⟨(.strct [(false, 3, 0), (false, 92, 1), (false, 3, 5), (false, 3, 6), (false, 93, 7)]), 8, 104, [(.int .i64 0), (.int .i64 0), (.int .i64 0), (.str []), (.slc none 0 (some 0) 0), (.int .i64 0), (.int .i64 0), (.slc none 0 (some 0) 0)], true⟩,  -- 95
  some ⟨.func, 1, 8, [.nilFn], false⟩,  -- 96
  some ⟨(.strct [(false, 3, 0), (false, 3, 1), (false, 95, 2)]), 10, 120, [(.int .i64 0), (.int .i64 0), (.int .i64 0), (.int .i64 0), (.int .i64 0), (.str []), (.slc none 0 (some 0) 0), (.int .i64 0), (.int .i64 0), (.slc none 0 (some 0) 0)], true⟩,  -- 97
  some ⟨(.strct [(false, 3, 0), (false, 3, 1), (false, 95, 2)]), 10, 120, [(.int .i64 0), (.int .i64 0), (.int .i64 0), (.int .i64 0), (.int .i64 0), (.str []), (.slc none 0 (some 0) 0), (.int .i64 0), (.int .i64 0), (.slc none 0 (some 0) 0)], true⟩,  -- 98
  some ⟨.func, 1, 8, [.nilFn], false⟩,  -- 99
  some ⟨.func, 1, 8, [.nilFn], false⟩,  -- 100
  some ⟨.func, 1, 8, [.nilFn], false⟩,  -- 101
  some ⟨.func, 1, 8, [.nilFn], false⟩,  -- 102
  some ⟨.func, 1, 8, [.nilFn], false⟩,  -- 103
  some ⟨.func, 1, 8, [.nilFn], false⟩,  -- 104
  some ⟨.func, 1, 8, [.nilFn], false⟩,  -- 105
  some ⟨.func, 1, 8, [.nilFn], false⟩,  -- 106
  some ⟨.func, 1, 8, [.nilFn], false⟩,  -- 107
  some ⟨.func, 1, 8, [.nilFn], false⟩,  -- 108
  some ⟨.func, 1, 8, [.nilFn], false⟩,  -- 109
  some ⟨.func, 1, 8, [.nilFn], false⟩,  -- 110
  some ⟨.func, 1, 8, [.nilFn], false⟩,  -- 111
  some ⟨.func, 1, 8, [.nilFn], false⟩,  -- 112
  some ⟨.func, 1, 8, [.nilFn], false⟩,  -- 113
  some ⟨.func, 1, 8, [.nilFn], false⟩,  -- 114
  some ⟨.func, 1, 8, [.nilFn], false⟩,  -- 115
  some ⟨.func, 1, 8, [.nilFn], false⟩,  -- 116
  some ⟨.func, 1, 8, [.nilFn], false⟩,  -- 117
  some ⟨.func, 1, 8, [.nilFn], false⟩,  -- 118
  some ⟨.func, 1, 8, [.nilFn], false⟩,  -- 119
  some ⟨.func, 1, 8, [.nilFn], false⟩,  -- 120
  some ⟨.func, 1, 8, [.nilFn], false⟩,  -- 121
  some ⟨.func, 1, 8, [.nilFn], false⟩,  -- 122
  none,  -- 123
  some ⟨.func, 1, 8, [.nilFn], false⟩,  -- 124
  some ⟨(.ptr 127), 1, 8, [(.ptr none)], false⟩,  -- 125
  some ⟨(.strct [(false, 26, 0), (false, 66, 3), (false, 64, 4), (false, 3, 5), (false, 72, 6), (false, 73, 8)]), 9, 168, [(.slc none 0 (some 0) 0), (.slc none 0 (some 0) 0), (.slc none 0 (some 0) 0), (.slc none 0 (some 0) 0), (.slc none 0 (some 0) 0), (.int .i64 0), (.slc none 0 (some 0) 0), (.int .i64 0), (.int .i64 0)], true⟩,  -- 126
  some ⟨(.strct [(false, 26, 0), (false, 66, 3), (false, 64, 4), (false, 3, 5), (false, 72, 6), (false, 73, 8)]), 9, 168, [(.slc none 0 (some 0) 0), (.slc none 0 (some 0) 0), (.slc none 0 (some 0) 0), (.slc none 0 (some 0) 0), (.slc none 0 (some 0) 0), (.int .i64 0), (.slc none 0 (some 0) 0), (.int .i64 0), (.int .i64 0)], true⟩,  -- 127
  some ⟨.func, 1, 8, [.nilFn], false⟩,  -- 128
  some ⟨.func, 1, 8, [.nilFn], false⟩,  -- 129
  some ⟨(.slc 134), 1, 24, [(.slc none 0 (some 0) 0)], false⟩,  -- 130
  some ⟨.func, 1, 8, [.nilFn], false⟩,  -- 131
  some ⟨(.strct [(false, 3, 0), (false, 3, 1), (false, 3, 2), (false, 9, 3), (false, 48, 4)]), 5, 64, [(.int .i64 0), (.int .i64 0), (.int .i64 0), (.str []), (.slc none 0 (some 0) 0)], true⟩,  -- 132
  some ⟨(.strct [(false, 3, 0), (false, 3, 1), (false, 3, 2), (false, 9, 3), (false, 48, 4)]), 5, 64, [(.int .i64 0), (.int .i64 0), (.int .i64 0), (.str []), (.slc none 0 (some 0) 0)], true⟩,  -- 133
  some ⟨(.arr 2 3), 2, 16, [(.int .i64 0), (.int .i64 0)], false⟩,  -- 134
  some ⟨.func, 1, 8, [.nilFn], false⟩,  -- 135
  some ⟨(.slc 35), 1, 24, [(.slc none 0 (some 0) 0)], false⟩,  -- 136
  some ⟨.func, 1, 8, [.nilFn], false⟩,  -- 137
  some ⟨.func, 1, 8, [.nilFn], false⟩,  -- 138
  some ⟨.func, 1, 8, [.nilFn], false⟩,  -- 139
  some ⟨.func, 1, 8, [.nilFn], false⟩,  -- 140
  some ⟨.func, 1, 8, [.nilFn], false⟩,  -- 141
  some ⟨.func, 1, 8, [.nilFn], false⟩,  -- 142
  some ⟨.func, 1, 8, [.nilFn], false⟩,  -- 143
  some ⟨(.map 9 4), 1, 8, [(.map none)], false⟩,  -- 144
  some ⟨.func, 1, 8, [.nilFn], false⟩,  -- 145
  some ⟨.func, 1, 8, [.nilFn], false⟩,  -- 146
  some ⟨(.strct [(false, 17, 0), (false, 17, 1), (false, 17, 2), (false, 9, 3)]), 4, 40, [(.ptr none), (.ptr none), (.ptr none), (.str [])], false⟩,  -- 147
  some ⟨(.strct [(false, 17, 0), (false, 17, 1), (false, 17, 2), (false, 9, 3)]), 4, 40, [(.ptr none), (.ptr none), (.ptr none), (.str [])], false⟩,  -- 148
  some ⟨(.arr 0 16), 0, 0, [], false⟩,  -- 149
  some ⟨(.strct [(true, 149, 0)]), 0, 0, [], false⟩,  -- 150
  some ⟨(.strct [(true, 149, 0)]), 0, 0, [], false⟩,  -- 151
  some ⟨.func, 1, 8, [.nilFn], false⟩,  -- 152
  some ⟨(.int .u32), 1, 4, [(.int .u32 0)], false⟩,  -- 153
  some ⟨(.int .u8), 1, 1, [(.int .u8 0)], false⟩,  -- 154
  some ⟨(.int .u8), 1, 1, [(.int .u8 0)], false⟩,  -- 155
  some ⟨.func, 1, 8, [.nilFn], false⟩,  -- 156
  some ⟨(.ptr 5), 1, 8, [(.ptr none)], false⟩,  -- 157
  some ⟨(.int .i32), 1, 4, [(.int .i32 0)], false⟩,  -- 158
  some ⟨(.int .i32), 1, 4, [(.int .i32 0)], false⟩,  -- 159
  some ⟨(.strct [(false, 12, 0), (false, 12, 1), (false, 153, 2), (false, 154, 3), (false, 5, 4), (false, 5, 5), (false, 155, 6), (false, 156, 7), (false, 157, 8), (false, 158, 9), (false, 159, 10)]), 11, 48, [(.int .u64 0), (.int .u64 0), (.int .u32 0), (.int .u8 0), (.int .u8 0), (.int .u8 0), (.int .u8 0), .nilFn, (.ptr none), (.int .i32 0), (.int .i32 0)], false⟩,  -- 160
  some ⟨(.strct [(false, 12, 0), (false, 12, 1), (false, 153, 2), (false, 154, 3), (false, 5, 4), (false, 5, 5), (false, 155, 6), (false, 156, 7), (false, 157, 8), (false, 158, 9), (false, 159, 10)]), 11, 48, [(.int .u64 0), (.int .u64 0), (.int .u32 0), (.int .u8 0), (.int .u8 0), (.int .u8 0), (.int .u8 0), .nilFn, (.ptr none), (.int .i32 0), (.int .i32 0)], false⟩,  -- 161
  some ⟨.other, 1, 8, [(.ptr none)], false⟩]  -- 162
set_option maxHeartbeats 4000000 in
theorem tblT_eq : (List.range 163).map (mkTI Try.prog) = tblT := by kernel_rfl
def T : TT := tabT tblT
theorem hT : TypesOk Try.prog T := tabT_ok tblT_eq
noncomputable def tblF : List (Option Func) := [
  none,  -- main.main
  none,  -- gosem.cut
  some Try.f2,  -- gosem.cut.init
  some Try.f3,  -- lemmata/lemmatalaw11.GramAll
  some Try.f4,  -- lemmata/lemmatalaw11.GramForms
  some Try.f5,  -- lemmata/lemmatalaw11.GramOffset
  some Try.f6,  -- lemmata/lemmatalaw12.FirstAll
  some Try.f7,  -- lemmata/lemmatalaw12.FirstTrue
  some Try.f8,  -- lemmata/lemmatalaw12.FirstMore
  some Try.f9,  -- lemmata/lemmatalaw12.FirstForms
  some Try.f10,  -- lemmata/lemmatalaw12.FirstRow
  some Try.f11,  -- lemmata/lemmatalaw13.LlAll
  some Try.f12,  -- lemmata/lemmatalaw13.LlClash
  some Try.f13,  -- lemmata/lemmatalaw13.LlForms
  some Try.f14,  -- lemmata/lemmatalaw13.LlNone
  some Try.f15,  -- lemmata/lemmatalaw11.begun
  some Try.f16,  -- lemmata/lemmatalaw11.Light
  some Try.f17,  -- lemmata/lemmataplay.Made
  some Try.f18,  -- (*lemmata/lemmataplay.Picks).Grammar
  some Try.f19,  -- lemmata/lemmataplay.Sums
  some Try.f20,  -- lemmata/gram.May
  some Try.f21,  -- lemmata/lemmataref11.May
  some Try.f22,  -- lemmata/gram.Same
  some Try.f23,  -- lemmata/lemmataref11.Same
  some Try.f24,  -- lemmata/gram.Offset
  some Try.f25,  -- lemmata/lemmataref11.Offset
  some Try.f26,  -- lemmata/lemmatalaw12.begun
  some Try.f27,  -- lemmata/lemmataref11.Reckon
  some Try.f28,  -- lemmata/lemmatalaw12.sameRow
  some Try.f29,  -- lemmata/first.Nullable
  some Try.f30,  -- lemmata/lemmatalaw12.sameRows
  some Try.f31,  -- lemmata/first.First
  some Try.f32,  -- lemmata/first.Follow
  some Try.f33,  -- lemmata/first.Row
  some Try.f34,  -- (lemmata/lemmataref11.Sets).Row
  some Try.f35,  -- (*lemmata/lemmataplay.Picks).Leaves
  some Try.f36,  -- lemmata/lemmataref11.Table
  some Try.f37,  -- lemmata/lemmataref11.Parse
  some Try.f38,  -- lemmata/lemmatalaw12.stands
  some Try.f39,  -- (*lemmata/lemmataplay.Picks).Num
  some Try.f40,  -- lemmata/lemmatalaw12.within
  some Try.f41,  -- lemmata/lemmatalaw13.begun
  some Try.f42,  -- lemmata/ll.Table
  some Try.f43,  -- (lemmata/lemmataref11.Sets).Meant
  some Try.f44,  -- (*lemmata/lemmataplay.Picks).rules
  some Try.f45,  -- lemmata/lemmataplay.con
  some Try.f46,  -- lemmata/lemmataplay.ref
  some Try.f47,  -- lemmata/lemmataplay.tok
  some Try.f48,  -- lemmata/gram.within[lemmata/api.Tok]
  some Try.f49,  -- lemmata/gram.within[lemmata/api.Nt]
  some Try.f50,  -- lemmata/gram.within[lemmata/api.Prod]
  some Try.f51,  -- slices.Concat[[]string,string]
  some Try.f52,  -- lemmata/gram.names
  some Try.f53,  -- slices.ContainsFunc[[]lemmata/api.Prod,lemmata/api.Prod]
  some Try.f54,  -- lemmata/gram.May$1
  some Try.f55,  -- lemmata/gram.prod
  some Try.f56,  -- lemmata/lemmataref11.unlike
  some Try.f57,  -- slices.Equal[[]lemmata/api.Tok,lemmata/api.Tok]
  some Try.f58,  -- slices.EqualFunc[[]lemmata/api.Nt,[]lemmata/api.Nt,lemmata/api.Nt,lemmata/api.Nt]
  some Try.f59,  -- lemmata/gram.Same$1
  some Try.f60,  -- slices.Equal[[]string,string]
  some Try.f61,  -- slices.EqualFunc[[]lemmata/api.Prod,[]lemmata/api.Prod,lemmata/api.Prod,lemmata/api.Prod]
  some Try.f62,  -- lemmata/gram.Same$2
  some Try.f63,  -- slices.Equal[[]lemmata/api.Sym,lemmata/api.Sym]
  some Try.f64,  -- lemmata/lemmataref11.sameNames
  some Try.f65,  -- lemmata/lemmataref11.SameRight
  some Try.f66,  -- (lemmata/lemmataref11.Sets).behind
  some Try.f67,  -- lemmata/first.grows
  some Try.f68,  -- lemmata/first.Nullable$1
  some Try.f69,  -- slices.ContainsFunc[[]lemmata/api.Sym,lemmata/api.Sym]
  some Try.f70,  -- lemmata/first.Nullable$1$1
  some Try.f71,  -- lemmata/first.set
  some Try.f72,  -- lemmata/first.sets
  some Try.f73,  -- lemmata/first.First$1
  some Try.f74,  -- lemmata/first.begins
  some Try.f75,  -- lemmata/first.union
  some Try.f76,  -- lemmata/first.Follow$1
  some Try.f77,  -- (*lemmata/lemmataplay.Picks).derive
  some Try.f78,  -- (*lemmata/lemmataref11.maker).symbol
  some Try.f79,  -- lemmata/lemmataref11.Leaves
  some Try.f80,  -- lemmata/lemmataref11.Spans
  some Try.f81,  -- lemmata/lemmataref17.Count
  some Try.f82,  -- lemmata/lemmataref17.IsInh
  some Try.f83,  -- slices.Grow[[]string,string]
  some Try.f84,  -- lemmata/gram.unlike[string]
  some Try.f85,  -- slices.ContainsFunc[[]string,string]
  some Try.f86,  -- lemmata/gram.names$1
  some Try.f87,  -- lemmata/gram.name
  some Try.f88,  -- slices.IndexFunc[[]lemmata/api.Prod,lemmata/api.Prod]
  some Try.f89,  -- lemmata/gram.prod$1
  some Try.f90,  -- lemmata/gram.sym
  some Try.f91,  -- lemmata/lemmataref11.mayName
  some Try.f92,  -- slices.IndexFunc[[]lemmata/api.Sym,lemmata/api.Sym]
  some Try.f93,  -- lemmata/lemmataref11.Ends
  some Try.f94,  -- slices.IndexFunc[[]string,string]
  none,  -- (runtime.boundsError).Error
  none,  -- (runtime.boundsError).RuntimeError
  none,  -- (runtime.errorString).Error
  none,  -- (runtime.errorString).RuntimeError
  none,  -- (runtime.plainError).Error
  none,  -- (runtime.plainError).RuntimeError
  none,  -- (runtime.errorAddressString).Error
  none,  -- (runtime.errorAddressString).RuntimeError
  none,  -- (*runtime.TypeAssertionError).Error
  none,  -- (*runtime.TypeAssertionError).RuntimeError
  none,  -- (*runtime.PanicNilError).Error
  none,  -- (*runtime.PanicNilError).RuntimeError
  none,  -- (*internal/abi.Type).Align
  none,  -- (internal/runtime/maps.unhashableTypeError).Error
  none,  -- (internal/runtime/maps.unhashableTypeError).RuntimeError
  none,  -- (*lemmata/lemmataplay.Picks).Over
  none]  -- (internal/abi.Kind).String
set_option maxHeartbeats 4000000 in
theorem tblF_eq : Try.prog.funcs.toList.map okFunc = tblF := by kernel_rfl
noncomputable def F : Nat → Option Func := tabF tblF
theorem hF : FuncsOk Try.prog F := tabF_ok tblF_eq
end Go.Proofs.Ytmiicjaepddhoaa
