/- The tables of the abstract evaluator for this program: by program. -/
import Derived.Test.YtffeeebegglejaaGrCore
import Derived.Test.YtffeeebegglejaaProg
set_option maxRecDepth 100000
namespace Go.Na
open Go.Gr
def ty0 : TI := { k := .tup, size := 1, bytes := 0, zero := [], plain := false }
def ty1 : TI := { k := .fn, size := 1, bytes := 8, zero := [.nilFn], plain := false }
def ty2 : TI := { k := .int .i64, size := 1, bytes := 8, zero := [.int .i64 0], plain := false }
def ty3 : TI := { k := .int .i64, size := 1, bytes := 8, zero := [.int .i64 0], plain := false }
def ty4 : TI := { k := .bool, size := 1, bytes := 1, zero := [.bool false], plain := false }
def ty5 : TI := { k := .int .u8, size := 1, bytes := 1, zero := [.int .u8 0], plain := false }
def ty6 : TI := { k := .int .u8, size := 1, bytes := 1, zero := [.int .u8 0], plain := false }
def ty7 : TI := { k := .st [(2, 0), (3, 1), (4, 2), (6, 3)], size := 4, bytes := 24, zero := [.int .i64 0, .int .i64 0, .bool false, .int .u8 0], plain := true }
def ty8 : TI := { k := .st [(2, 0), (3, 1), (4, 2), (6, 3)], size := 4, bytes := 24, zero := [.int .i64 0, .int .i64 0, .bool false, .int .u8 0], plain := true }
def ty9 : TI := { k := .str, size := 1, bytes := 16, zero := [.str []], plain := false }
def ty10 : TI := { k := .str, size := 1, bytes := 16, zero := [.str []], plain := false }
def ty11 : TI := { k := .str, size := 1, bytes := 16, zero := [.str []], plain := false }
def ty12 : TI := { k := .int .u64, size := 1, bytes := 8, zero := [.int .u64 0], plain := false }
def ty13 : TI := { k := .st [(9, 0), (12, 1)], size := 2, bytes := 24, zero := [.str [], .int .u64 0], plain := false }
def ty14 : TI := { k := .st [(9, 0), (12, 1)], size := 2, bytes := 24, zero := [.str [], .int .u64 0], plain := false }
def ty15 : TI := { k := .ptr 161, size := 1, bytes := 8, zero := [.ptr none], plain := false }
def ty16 : TI := { k := .ptr 164, size := 1, bytes := 8, zero := [.ptr none], plain := false }
def ty17 : TI := { k := .ptr 172, size := 1, bytes := 8, zero := [.ptr none], plain := false }
def ty18 : TI := { k := .st [(17, 0)], size := 1, bytes := 8, zero := [.ptr none], plain := false }
def ty19 : TI := { k := .st [(17, 0)], size := 1, bytes := 8, zero := [.ptr none], plain := false }
def ty20 : TI := { k := .iface, size := 1, bytes := 16, zero := [.nilIface], plain := false }
def ty21 : TI := { k := .int .i32, size := 1, bytes := 4, zero := [.int .i32 0], plain := false }
def ty22 : TI := { k := .ptr 70, size := 1, bytes := 8, zero := [.ptr none], plain := false }
def ty23 : TI := { k := .int .u64, size := 1, bytes := 8, zero := [.int .u64 0], plain := false }
def ty24 : TI := { k := .int .i64, size := 1, bytes := 8, zero := [.int .i64 0], plain := false }
def ty25 : TI := { k := .tup, size := 1, bytes := 0, zero := [], plain := false }
def ty26 : TI := { k := .fn, size := 1, bytes := 8, zero := [.nilFn], plain := false }
def ty27 : TI := { k := .sl 5, size := 1, bytes := 24, zero := [.sl none 0 (.ex 0)], plain := false }
def ty28 : TI := { k := .fn, size := 1, bytes := 8, zero := [.nilFn], plain := false }
def ty29 : TI := { k := .st [(3, 0), (27, 1)], size := 2, bytes := 32, zero := [.int .i64 0, .sl none 0 (.ex 0)], plain := false }
def ty30 : TI := { k := .st [(3, 0), (27, 1)], size := 2, bytes := 32, zero := [.int .i64 0, .sl none 0 (.ex 0)], plain := false }
def ty31 : TI := { k := .sl 30, size := 1, bytes := 24, zero := [.sl none 0 (.ex 0)], plain := false }
def ty32 : TI := { k := .sl 31, size := 1, bytes := 24, zero := [.sl none 0 (.ex 0)], plain := false }
def ty33 : TI := { k := .tup, size := 1, bytes := 0, zero := [], plain := false }
def ty34 : TI := { k := .fn, size := 1, bytes := 8, zero := [.nilFn], plain := false }
def ty35 : TI := { k := .fn, size := 1, bytes := 8, zero := [.nilFn], plain := false }
def ty36 : TI := { k := .fn, size := 1, bytes := 8, zero := [.nilFn], plain := false }
def ty37 : TI := { k := .fn, size := 1, bytes := 8, zero := [.nilFn], plain := false }
def ty38 : TI := { k := .fn, size := 1, bytes := 8, zero := [.nilFn], plain := false }
def ty39 : TI := { k := .fn, size := 1, bytes := 8, zero := [.nilFn], plain := false }
def ty40 : TI := { k := .fn, size := 1, bytes := 8, zero := [.nilFn], plain := false }
def ty41 : TI := { k := .fn, size := 1, bytes := 8, zero := [.nilFn], plain := false }
def ty42 : TI := { k := .ptr 97, size := 1, bytes := 8, zero := [.ptr none], plain := false }
def ty43 : TI := { k := .tup, size := 1, bytes := 0, zero := [], plain := false }
def ty44 : TI := { k := .fn, size := 1, bytes := 8, zero := [.nilFn], plain := false }
def ty45 : TI := { k := .tup, size := 1, bytes := 0, zero := [], plain := false }
def ty46 : TI := { k := .fn, size := 1, bytes := 8, zero := [.nilFn], plain := false }
def ty47 : TI := { k := .tup, size := 1, bytes := 0, zero := [], plain := false }
def ty48 : TI := { k := .fn, size := 1, bytes := 8, zero := [.nilFn], plain := false }
def ty49 : TI := { k := .tup, size := 1, bytes := 0, zero := [], plain := false }
def ty50 : TI := { k := .fn, size := 1, bytes := 8, zero := [.nilFn], plain := false }
def ty51 : TI := { k := .tup, size := 1, bytes := 0, zero := [], plain := false }
def ty52 : TI := { k := .fn, size := 1, bytes := 8, zero := [.nilFn], plain := false }
def ty53 : TI := { k := .fn, size := 1, bytes := 8, zero := [.nilFn], plain := false }
def ty54 : TI := { k := .fn, size := 1, bytes := 8, zero := [.nilFn], plain := false }
def ty55 : TI := { k := .fn, size := 1, bytes := 8, zero := [.nilFn], plain := false }
def ty56 : TI := { k := .sl 111, size := 1, bytes := 24, zero := [.sl none 0 (.ex 0)], plain := false }
def ty57 : TI := { k := .fn, size := 1, bytes := 8, zero := [.nilFn], plain := false }
def ty58 : TI := { k := .sl 3, size := 1, bytes := 24, zero := [.sl none 0 (.ex 0)], plain := false }
def ty59 : TI := { k := .fn, size := 1, bytes := 8, zero := [.nilFn], plain := false }
def ty60 : TI := { k := .fn, size := 1, bytes := 8, zero := [.nilFn], plain := false }
def ty61 : TI := { k := .fn, size := 1, bytes := 8, zero := [.nilFn], plain := false }
def ty62 : TI := { k := .fn, size := 1, bytes := 8, zero := [.nilFn], plain := false }
def ty63 : TI := { k := .fn, size := 1, bytes := 8, zero := [.nilFn], plain := false }
def ty64 : TI := { k := .iface, size := 1, bytes := 16, zero := [.nilIface], plain := false }
def ty65 : TI := { k := .iface, size := 1, bytes := 16, zero := [.nilIface], plain := false }
def ty66 : TI := { k := .st [(23, 0), (23, 1), (23, 2), (23, 3), (23, 4), (23, 5)], size := 6, bytes := 48, zero := [.int .u64 0, .int .u64 0, .int .u64 0, .int .u64 0, .int .u64 0, .int .u64 0], plain := true }
def ty67 : TI := { k := .st [(23, 0), (23, 1), (23, 2), (23, 3), (23, 4), (23, 5)], size := 6, bytes := 48, zero := [.int .u64 0, .int .u64 0, .int .u64 0, .int .u64 0, .int .u64 0, .int .u64 0], plain := true }
def ty68 : TI := { k := .sl 79, size := 1, bytes := 24, zero := [.sl none 0 (.ex 0)], plain := false }
def ty69 : TI := { k := .st [(65, 0), (3, 1), (3, 2), (67, 3), (68, 9), (23, 10), (23, 11)], size := 12, bytes := 120, zero := [.nilIface, .int .i64 0, .int .i64 0, .int .u64 0, .int .u64 0, .int .u64 0, .int .u64 0, .int .u64 0, .int .u64 0, .sl none 0 (.ex 0), .int .u64 0, .int .u64 0], plain := false }
def ty70 : TI := { k := .st [(65, 0), (3, 1), (3, 2), (67, 3), (68, 9), (23, 10), (23, 11)], size := 12, bytes := 120, zero := [.nilIface, .int .i64 0, .int .i64 0, .int .u64 0, .int .u64 0, .int .u64 0, .int .u64 0, .int .u64 0, .int .u64 0, .sl none 0 (.ex 0), .int .u64 0, .int .u64 0], plain := false }
def ty71 : TI := { k := .fn, size := 1, bytes := 8, zero := [.nilFn], plain := false }
def ty72 : TI := { k := .st [(23, 0), (23, 1), (23, 2), (23, 3), (3, 4), (3, 5), (27, 6)], size := 7, bytes := 72, zero := [.int .u64 0, .int .u64 0, .int .u64 0, .int .u64 0, .int .i64 0, .int .i64 0, .sl none 0 (.ex 0)], plain := false }
def ty73 : TI := { k := .st [(23, 0), (23, 1), (23, 2), (23, 3), (3, 4), (3, 5), (27, 6)], size := 7, bytes := 72, zero := [.int .u64 0, .int .u64 0, .int .u64 0, .int .u64 0, .int .i64 0, .int .i64 0, .sl none 0 (.ex 0)], plain := false }
def ty74 : TI := { k := .fn, size := 1, bytes := 8, zero := [.nilFn], plain := false }
def ty75 : TI := { k := .fn, size := 1, bytes := 8, zero := [.nilFn], plain := false }
def ty76 : TI := { k := .st [(23, 0), (23, 1)], size := 2, bytes := 16, zero := [.int .u64 0, .int .u64 0], plain := true }
def ty77 : TI := { k := .st [(23, 0), (23, 1)], size := 2, bytes := 16, zero := [.int .u64 0, .int .u64 0], plain := true }
def ty78 : TI := { k := .st [(3, 0), (77, 1)], size := 3, bytes := 24, zero := [.int .i64 0, .int .u64 0, .int .u64 0], plain := true }
def ty79 : TI := { k := .st [(3, 0), (77, 1)], size := 3, bytes := 24, zero := [.int .i64 0, .int .u64 0, .int .u64 0], plain := true }
def ty80 : TI := { k := .tup, size := 1, bytes := 0, zero := [], plain := false }
def ty81 : TI := { k := .fn, size := 1, bytes := 8, zero := [.nilFn], plain := false }
def ty82 : TI := { k := .fn, size := 1, bytes := 8, zero := [.nilFn], plain := false }
def ty83 : TI := { k := .ptr 124, size := 1, bytes := 8, zero := [.ptr none], plain := false }
def ty84 : TI := { k := .fn, size := 1, bytes := 8, zero := [.nilFn], plain := false }
def ty85 : TI := { k := .fn, size := 1, bytes := 8, zero := [.nilFn], plain := false }
def ty86 : TI := { k := .fn, size := 1, bytes := 8, zero := [.nilFn], plain := false }
def ty87 : TI := { k := .fn, size := 1, bytes := 8, zero := [.nilFn], plain := false }
def ty88 : TI := { k := .ptr 92, size := 1, bytes := 8, zero := [.ptr none], plain := false }
def ty89 : TI := { k := .fn, size := 1, bytes := 8, zero := [.nilFn], plain := false }
def ty90 : TI := { k := .sl 27, size := 1, bytes := 24, zero := [.sl none 0 (.ex 0)], plain := false }
def ty91 : TI := { k := .st [(90, 0), (58, 1), (3, 2), (3, 3), (3, 4)], size := 5, bytes := 72, zero := [.sl none 0 (.ex 0), .sl none 0 (.ex 0), .int .i64 0, .int .i64 0, .int .i64 0], plain := false }
def ty92 : TI := { k := .st [(90, 0), (58, 1), (3, 2), (3, 3), (3, 4)], size := 5, bytes := 72, zero := [.sl none 0 (.ex 0), .sl none 0 (.ex 0), .int .i64 0, .int .i64 0, .int .i64 0], plain := false }
def ty93 : TI := { k := .fn, size := 1, bytes := 8, zero := [.nilFn], plain := false }
def ty94 : TI := { k := .mp 3 95, size := 1, bytes := 8, zero := [.mp none], plain := false }
def ty95 : TI := { k := .ptr 104, size := 1, bytes := 8, zero := [.ptr none], plain := false }
def ty96 : TI := { k := .st [(65, 0), (3, 1), (94, 2), (95, 3), (95, 4), (23, 5), (3, 6), (3, 7)], size := 8, bytes := 72, zero := [.nilIface, .int .i64 0, .mp none, .ptr none, .ptr none, .int .u64 0, .int .i64 0, .int .i64 0], plain := false }
def ty97 : TI := { k := .st [(65, 0), (3, 1), (94, 2), (95, 3), (95, 4), (23, 5), (3, 6), (3, 7)], size := 8, bytes := 72, zero := [.nilIface, .int .i64 0, .mp none, .ptr none, .ptr none, .int .u64 0, .int .i64 0, .int .i64 0], plain := false }
def ty98 : TI := { k := .tup, size := 1, bytes := 0, zero := [], plain := false }
def ty99 : TI := { k := .fn, size := 1, bytes := 8, zero := [.nilFn], plain := false }
def ty100 : TI := { k := .fn, size := 1, bytes := 8, zero := [.nilFn], plain := false }
def ty101 : TI := { k := .st [(95, 0), (95, 1)], size := 2, bytes := 16, zero := [.ptr none, .ptr none], plain := false }
def ty102 : TI := { k := .st [(95, 0), (95, 1)], size := 2, bytes := 16, zero := [.ptr none, .ptr none], plain := false }
def ty103 : TI := { k := .st [(102, 0), (3, 2), (27, 3), (4, 4), (23, 5), (23, 6), (3, 7)], size := 8, bytes := 80, zero := [.ptr none, .ptr none, .int .i64 0, .sl none 0 (.ex 0), .bool false, .int .u64 0, .int .u64 0, .int .i64 0], plain := false }
def ty104 : TI := { k := .st [(102, 0), (3, 2), (27, 3), (4, 4), (23, 5), (23, 6), (3, 7)], size := 8, bytes := 80, zero := [.ptr none, .ptr none, .int .i64 0, .sl none 0 (.ex 0), .bool false, .int .u64 0, .int .u64 0, .int .i64 0], plain := false }
def ty105 : TI := { k := .sl 95, size := 1, bytes := 24, zero := [.sl none 0 (.ex 0)], plain := false }
def ty106 : TI := { k := .fn, size := 1, bytes := 8, zero := [.nilFn], plain := false }
def ty107 : TI := { k := .fn, size := 1, bytes := 8, zero := [.nilFn], plain := false }
def ty108 : TI := { k := .fn, size := 1, bytes := 8, zero := [.nilFn], plain := false }
def ty109 : TI := { k := .fn, size := 1, bytes := 8, zero := [.nilFn], plain := false }
def ty110 : TI := { k := .st [(3, 0), (23, 1), (23, 2), (3, 3)], size := 4, bytes := 32, zero := [.int .i64 0, .int .u64 0, .int .u64 0, .int .i64 0], plain := true }
def ty111 : TI := { k := .st [(3, 0), (23, 1), (23, 2), (3, 3)], size := 4, bytes := 32, zero := [.int .i64 0, .int .u64 0, .int .u64 0, .int .i64 0], plain := true }
def ty112 : TI := { k := .fn, size := 1, bytes := 8, zero := [.nilFn], plain := false }
def ty113 : TI := { k := .sl 23, size := 1, bytes := 24, zero := [.sl none 0 (.ex 0)], plain := false }
def ty114 : TI := { k := .tup, size := 1, bytes := 0, zero := [], plain := false }
def ty115 : TI := { k := .fn, size := 1, bytes := 8, zero := [.nilFn], plain := false }
def ty116 : TI := { k := .tup, size := 1, bytes := 0, zero := [], plain := false }
def ty117 : TI := { k := .fn, size := 1, bytes := 8, zero := [.nilFn], plain := false }
def ty118 : TI := { k := .fn, size := 1, bytes := 8, zero := [.nilFn], plain := false }
def ty119 : TI := { k := .tup, size := 1, bytes := 0, zero := [], plain := false }
def ty120 : TI := { k := .fn, size := 1, bytes := 8, zero := [.nilFn], plain := false }
def ty121 : TI := { k := .sl 9, size := 1, bytes := 24, zero := [.sl none 0 (.ex 0)], plain := false }
def ty122 : TI := { k := .sl 126, size := 1, bytes := 24, zero := [.sl none 0 (.ex 0)], plain := false }
def ty123 : TI := { k := .st [(121, 0), (122, 1), (3, 2)], size := 3, bytes := 56, zero := [.sl none 0 (.ex 0), .sl none 0 (.ex 0), .int .i64 0], plain := false }
def ty124 : TI := { k := .st [(121, 0), (122, 1), (3, 2)], size := 3, bytes := 56, zero := [.sl none 0 (.ex 0), .sl none 0 (.ex 0), .int .i64 0], plain := false }
def ty125 : TI := { k := .st [(3, 0), (9, 1)], size := 2, bytes := 24, zero := [.int .i64 0, .str []], plain := true }
def ty126 : TI := { k := .st [(3, 0), (9, 1)], size := 2, bytes := 24, zero := [.int .i64 0, .str []], plain := true }
def ty127 : TI := { k := .fn, size := 1, bytes := 8, zero := [.nilFn], plain := false }
def ty128 : TI := { k := .fn, size := 1, bytes := 8, zero := [.nilFn], plain := false }
def ty129 : TI := { k := .fn, size := 1, bytes := 8, zero := [.nilFn], plain := false }
def ty130 : TI := { k := .fn, size := 1, bytes := 8, zero := [.nilFn], plain := false }
def ty131 : TI := { k := .fn, size := 1, bytes := 8, zero := [.nilFn], plain := false }
def ty132 : TI := { k := .fn, size := 1, bytes := 8, zero := [.nilFn], plain := false }
def ty133 : TI := { k := .fn, size := 1, bytes := 8, zero := [.nilFn], plain := false }
def ty134 : TI := { k := .arr 6 23, size := 6, bytes := 48, zero := [.int .u64 0, .int .u64 0, .int .u64 0, .int .u64 0, .int .u64 0, .int .u64 0], plain := true }
def ty135 : TI := { k := .fn, size := 1, bytes := 8, zero := [.nilFn], plain := false }
def ty136 : TI := { k := .fn, size := 1, bytes := 8, zero := [.nilFn], plain := false }
def ty137 : TI := { k := .fn, size := 1, bytes := 8, zero := [.nilFn], plain := false }
def ty138 : TI := { k := .fn, size := 1, bytes := 8, zero := [.nilFn], plain := false }
def ty139 : TI := { k := .int .u64, size := 1, bytes := 8, zero := [.int .u64 0], plain := false }
def ty140 : TI := { k := .fn, size := 1, bytes := 8, zero := [.nilFn], plain := false }
def ty141 : TI := { k := .fn, size := 1, bytes := 8, zero := [.nilFn], plain := false }
def ty142 : TI := { k := .fn, size := 1, bytes := 8, zero := [.nilFn], plain := false }
def ty143 : TI := { k := .int .i64, size := 1, bytes := 8, zero := [.int .i64 0], plain := false }
def ty144 : TI := { k := .tup, size := 1, bytes := 0, zero := [], plain := false }
def ty145 : TI := { k := .fn, size := 1, bytes := 8, zero := [.nilFn], plain := false }
def ty146 : TI := { k := .fn, size := 1, bytes := 8, zero := [.nilFn], plain := false }
def ty147 : TI := { k := .fn, size := 1, bytes := 8, zero := [.nilFn], plain := false }
def ty148 : TI := { k := .tup, size := 1, bytes := 0, zero := [], plain := false }
def ty149 : TI := { k := .fn, size := 1, bytes := 8, zero := [.nilFn], plain := false }
def ty150 : TI := { k := .fn, size := 1, bytes := 8, zero := [.nilFn], plain := false }
def ty151 : TI := { k := .int .u32, size := 1, bytes := 4, zero := [.int .u32 0], plain := false }
def ty152 : TI := { k := .int .u64, size := 1, bytes := 8, zero := [.int .u64 0], plain := false }
def ty153 : TI := { k := .fn, size := 1, bytes := 8, zero := [.nilFn], plain := false }
def ty154 : TI := { k := .fn, size := 1, bytes := 8, zero := [.nilFn], plain := false }
def ty155 : TI := { k := .ptr 3, size := 1, bytes := 8, zero := [.ptr none], plain := false }
def ty156 : TI := { k := .fn, size := 1, bytes := 8, zero := [.nilFn], plain := false }
def ty157 : TI := { k := .ptr 152, size := 1, bytes := 8, zero := [.ptr none], plain := false }
def ty158 : TI := { k := .fn, size := 1, bytes := 8, zero := [.nilFn], plain := false }
def ty159 : TI := { k := .fn, size := 1, bytes := 8, zero := [.nilFn], plain := false }
def ty160 : TI := { k := .st [(17, 0), (17, 1), (17, 2), (9, 3)], size := 4, bytes := 40, zero := [.ptr none, .ptr none, .ptr none, .str []], plain := false }
def ty161 : TI := { k := .st [(17, 0), (17, 1), (17, 2), (9, 3)], size := 4, bytes := 40, zero := [.ptr none, .ptr none, .ptr none, .str []], plain := false }
def ty162 : TI := { k := .arr 0 16, size := 0, bytes := 0, zero := [], plain := false }
def ty163 : TI := { k := .st [(162, 0)], size := 0, bytes := 0, zero := [], plain := false }
def ty164 : TI := { k := .st [(162, 0)], size := 0, bytes := 0, zero := [], plain := false }
def ty165 : TI := { k := .int .u8, size := 1, bytes := 1, zero := [.int .u8 0], plain := false }
def ty166 : TI := { k := .int .u8, size := 1, bytes := 1, zero := [.int .u8 0], plain := false }
def ty167 : TI := { k := .fn, size := 1, bytes := 8, zero := [.nilFn], plain := false }
def ty168 : TI := { k := .ptr 5, size := 1, bytes := 8, zero := [.ptr none], plain := false }
def ty169 : TI := { k := .int .i32, size := 1, bytes := 4, zero := [.int .i32 0], plain := false }
def ty170 : TI := { k := .int .i32, size := 1, bytes := 4, zero := [.int .i32 0], plain := false }
def ty171 : TI := { k := .st [(12, 0), (12, 1), (151, 2), (165, 3), (5, 4), (5, 5), (166, 6), (167, 7), (168, 8), (169, 9), (170, 10)], size := 11, bytes := 48, zero := [.int .u64 0, .int .u64 0, .int .u32 0, .int .u8 0, .int .u8 0, .int .u8 0, .int .u8 0, .nilFn, .ptr none, .int .i32 0, .int .i32 0], plain := false }
def ty172 : TI := { k := .st [(12, 0), (12, 1), (151, 2), (165, 3), (5, 4), (5, 5), (166, 6), (167, 7), (168, 8), (169, 9), (170, 10)], size := 11, bytes := 48, zero := [.int .u64 0, .int .u64 0, .int .u32 0, .int .u8 0, .int .u8 0, .int .u8 0, .int .u8 0, .nilFn, .ptr none, .int .i32 0, .int .i32 0], plain := false }
def tyT : BT TI := .node 86 ty86 (.node 43 ty43 (.node 21 ty21 (.node 10 ty10 (.node 5 ty5 (.node 2 ty2 (.node 1 ty1 (.node 0 ty0 .nil .nil) .nil) (.node 4 ty4 (.node 3 ty3 .nil .nil) .nil)) (.node 8 ty8 (.node 7 ty7 (.node 6 ty6 .nil .nil) .nil) (.node 9 ty9 .nil .nil))) (.node 16 ty16 (.node 13 ty13 (.node 12 ty12 (.node 11 ty11 .nil .nil) .nil) (.node 15 ty15 (.node 14 ty14 .nil .nil) .nil)) (.node 19 ty19 (.node 18 ty18 (.node 17 ty17 .nil .nil) .nil) (.node 20 ty20 .nil .nil)))) (.node 32 ty32 (.node 27 ty27 (.node 24 ty24 (.node 23 ty23 (.node 22 ty22 .nil .nil) .nil) (.node 26 ty26 (.node 25 ty25 .nil .nil) .nil)) (.node 30 ty30 (.node 29 ty29 (.node 28 ty28 .nil .nil) .nil) (.node 31 ty31 .nil .nil))) (.node 38 ty38 (.node 35 ty35 (.node 34 ty34 (.node 33 ty33 .nil .nil) .nil) (.node 37 ty37 (.node 36 ty36 .nil .nil) .nil)) (.node 41 ty41 (.node 40 ty40 (.node 39 ty39 .nil .nil) .nil) (.node 42 ty42 .nil .nil))))) (.node 65 ty65 (.node 54 ty54 (.node 49 ty49 (.node 46 ty46 (.node 45 ty45 (.node 44 ty44 .nil .nil) .nil) (.node 48 ty48 (.node 47 ty47 .nil .nil) .nil)) (.node 52 ty52 (.node 51 ty51 (.node 50 ty50 .nil .nil) .nil) (.node 53 ty53 .nil .nil))) (.node 60 ty60 (.node 57 ty57 (.node 56 ty56 (.node 55 ty55 .nil .nil) .nil) (.node 59 ty59 (.node 58 ty58 .nil .nil) .nil)) (.node 63 ty63 (.node 62 ty62 (.node 61 ty61 .nil .nil) .nil) (.node 64 ty64 .nil .nil)))) (.node 76 ty76 (.node 71 ty71 (.node 68 ty68 (.node 67 ty67 (.node 66 ty66 .nil .nil) .nil) (.node 70 ty70 (.node 69 ty69 .nil .nil) .nil)) (.node 74 ty74 (.node 73 ty73 (.node 72 ty72 .nil .nil) .nil) (.node 75 ty75 .nil .nil))) (.node 81 ty81 (.node 79 ty79 (.node 78 ty78 (.node 77 ty77 .nil .nil) .nil) (.node 80 ty80 .nil .nil)) (.node 84 ty84 (.node 83 ty83 (.node 82 ty82 .nil .nil) .nil) (.node 85 ty85 .nil .nil)))))) (.node 130 ty130 (.node 108 ty108 (.node 97 ty97 (.node 92 ty92 (.node 89 ty89 (.node 88 ty88 (.node 87 ty87 .nil .nil) .nil) (.node 91 ty91 (.node 90 ty90 .nil .nil) .nil)) (.node 95 ty95 (.node 94 ty94 (.node 93 ty93 .nil .nil) .nil) (.node 96 ty96 .nil .nil))) (.node 103 ty103 (.node 100 ty100 (.node 99 ty99 (.node 98 ty98 .nil .nil) .nil) (.node 102 ty102 (.node 101 ty101 .nil .nil) .nil)) (.node 106 ty106 (.node 105 ty105 (.node 104 ty104 .nil .nil) .nil) (.node 107 ty107 .nil .nil)))) (.node 119 ty119 (.node 114 ty114 (.node 111 ty111 (.node 110 ty110 (.node 109 ty109 .nil .nil) .nil) (.node 113 ty113 (.node 112 ty112 .nil .nil) .nil)) (.node 117 ty117 (.node 116 ty116 (.node 115 ty115 .nil .nil) .nil) (.node 118 ty118 .nil .nil))) (.node 125 ty125 (.node 122 ty122 (.node 121 ty121 (.node 120 ty120 .nil .nil) .nil) (.node 124 ty124 (.node 123 ty123 .nil .nil) .nil)) (.node 128 ty128 (.node 127 ty127 (.node 126 ty126 .nil .nil) .nil) (.node 129 ty129 .nil .nil))))) (.node 152 ty152 (.node 141 ty141 (.node 136 ty136 (.node 133 ty133 (.node 132 ty132 (.node 131 ty131 .nil .nil) .nil) (.node 135 ty135 (.node 134 ty134 .nil .nil) .nil)) (.node 139 ty139 (.node 138 ty138 (.node 137 ty137 .nil .nil) .nil) (.node 140 ty140 .nil .nil))) (.node 147 ty147 (.node 144 ty144 (.node 143 ty143 (.node 142 ty142 .nil .nil) .nil) (.node 146 ty146 (.node 145 ty145 .nil .nil) .nil)) (.node 150 ty150 (.node 149 ty149 (.node 148 ty148 .nil .nil) .nil) (.node 151 ty151 .nil .nil)))) (.node 163 ty163 (.node 158 ty158 (.node 155 ty155 (.node 154 ty154 (.node 153 ty153 .nil .nil) .nil) (.node 157 ty157 (.node 156 ty156 .nil .nil) .nil)) (.node 161 ty161 (.node 160 ty160 (.node 159 ty159 .nil .nil) .nil) (.node 162 ty162 .nil .nil))) (.node 168 ty168 (.node 166 ty166 (.node 165 ty165 (.node 164 ty164 .nil .nil) .nil) (.node 167 ty167 .nil .nil)) (.node 171 ty171 (.node 170 ty170 (.node 169 ty169 .nil .nil) .nil) (.node 172 ty172 .nil .nil))))))
noncomputable def fnT : BT Func := .node 53 Go.Proofs.Try.f53 (.node 28 Go.Proofs.Try.f28 (.node 15 Go.Proofs.Try.f15 (.node 9 Go.Proofs.Try.f9 (.node 6 Go.Proofs.Try.f6 (.node 4 Go.Proofs.Try.f4 (.node 3 Go.Proofs.Try.f3 .nil .nil) (.node 5 Go.Proofs.Try.f5 .nil .nil)) (.node 8 Go.Proofs.Try.f8 (.node 7 Go.Proofs.Try.f7 .nil .nil) .nil)) (.node 12 Go.Proofs.Try.f12 (.node 11 Go.Proofs.Try.f11 (.node 10 Go.Proofs.Try.f10 .nil .nil) .nil) (.node 14 Go.Proofs.Try.f14 (.node 13 Go.Proofs.Try.f13 .nil .nil) .nil))) (.node 22 Go.Proofs.Try.f22 (.node 19 Go.Proofs.Try.f19 (.node 17 Go.Proofs.Try.f17 (.node 16 Go.Proofs.Try.f16 .nil .nil) (.node 18 Go.Proofs.Try.f18 .nil .nil)) (.node 21 Go.Proofs.Try.f21 (.node 20 Go.Proofs.Try.f20 .nil .nil) .nil)) (.node 25 Go.Proofs.Try.f25 (.node 24 Go.Proofs.Try.f24 (.node 23 Go.Proofs.Try.f23 .nil .nil) .nil) (.node 27 Go.Proofs.Try.f27 (.node 26 Go.Proofs.Try.f26 .nil .nil) .nil)))) (.node 41 Go.Proofs.Try.f41 (.node 35 Go.Proofs.Try.f35 (.node 32 Go.Proofs.Try.f32 (.node 30 Go.Proofs.Try.f30 (.node 29 Go.Proofs.Try.f29 .nil .nil) (.node 31 Go.Proofs.Try.f31 .nil .nil)) (.node 34 Go.Proofs.Try.f34 (.node 33 Go.Proofs.Try.f33 .nil .nil) .nil)) (.node 38 Go.Proofs.Try.f38 (.node 37 Go.Proofs.Try.f37 (.node 36 Go.Proofs.Try.f36 .nil .nil) .nil) (.node 40 Go.Proofs.Try.f40 (.node 39 Go.Proofs.Try.f39 .nil .nil) .nil))) (.node 47 Go.Proofs.Try.f47 (.node 44 Go.Proofs.Try.f44 (.node 43 Go.Proofs.Try.f43 (.node 42 Go.Proofs.Try.f42 .nil .nil) .nil) (.node 46 Go.Proofs.Try.f46 (.node 45 Go.Proofs.Try.f45 .nil .nil) .nil)) (.node 50 Go.Proofs.Try.f50 (.node 49 Go.Proofs.Try.f49 (.node 48 Go.Proofs.Try.f48 .nil .nil) .nil) (.node 52 Go.Proofs.Try.f52 (.node 51 Go.Proofs.Try.f51 .nil .nil) .nil))))) (.node 78 Go.Proofs.Try.f78 (.node 66 Go.Proofs.Try.f66 (.node 60 Go.Proofs.Try.f60 (.node 57 Go.Proofs.Try.f57 (.node 55 Go.Proofs.Try.f55 (.node 54 Go.Proofs.Try.f54 .nil .nil) (.node 56 Go.Proofs.Try.f56 .nil .nil)) (.node 59 Go.Proofs.Try.f59 (.node 58 Go.Proofs.Try.f58 .nil .nil) .nil)) (.node 63 Go.Proofs.Try.f63 (.node 62 Go.Proofs.Try.f62 (.node 61 Go.Proofs.Try.f61 .nil .nil) .nil) (.node 65 Go.Proofs.Try.f65 (.node 64 Go.Proofs.Try.f64 .nil .nil) .nil))) (.node 72 Go.Proofs.Try.f72 (.node 69 Go.Proofs.Try.f69 (.node 68 Go.Proofs.Try.f68 (.node 67 Go.Proofs.Try.f67 .nil .nil) .nil) (.node 71 Go.Proofs.Try.f71 (.node 70 Go.Proofs.Try.f70 .nil .nil) .nil)) (.node 75 Go.Proofs.Try.f75 (.node 74 Go.Proofs.Try.f74 (.node 73 Go.Proofs.Try.f73 .nil .nil) .nil) (.node 77 Go.Proofs.Try.f77 (.node 76 Go.Proofs.Try.f76 .nil .nil) .nil)))) (.node 91 Go.Proofs.Try.f91 (.node 85 Go.Proofs.Try.f85 (.node 82 Go.Proofs.Try.f82 (.node 80 Go.Proofs.Try.f80 (.node 79 Go.Proofs.Try.f79 .nil .nil) (.node 81 Go.Proofs.Try.f81 .nil .nil)) (.node 84 Go.Proofs.Try.f84 (.node 83 Go.Proofs.Try.f83 .nil .nil) .nil)) (.node 88 Go.Proofs.Try.f88 (.node 87 Go.Proofs.Try.f87 (.node 86 Go.Proofs.Try.f86 .nil .nil) .nil) (.node 90 Go.Proofs.Try.f90 (.node 89 Go.Proofs.Try.f89 .nil .nil) .nil))) (.node 114 Go.Proofs.Try.f114 (.node 111 Go.Proofs.Try.f111 (.node 93 Go.Proofs.Try.f93 (.node 92 Go.Proofs.Try.f92 .nil .nil) .nil) (.node 113 Go.Proofs.Try.f113 (.node 112 Go.Proofs.Try.f112 .nil .nil) .nil)) (.node 117 Go.Proofs.Try.f117 (.node 116 Go.Proofs.Try.f116 (.node 115 Go.Proofs.Try.f115 .nil .nil) .nil) (.node 119 Go.Proofs.Try.f119 (.node 118 Go.Proofs.Try.f118 .nil .nil) .nil)))))
def lcT : BT (List (Nat × List Nat)) := .node 51 [(0, [3, 10])] (.node 35 [(0, [3, 14, 15, 16])] (.node 17 [(0, [0, 1, 2, 6, 8]), (2, [0, 1, 6, 46])] (.node 7 [(0, [6, 7, 8, 10, 12, 13, 14])] (.node 6 [(0, [0, 3, 4])] (.node 5 [(0, [0, 4, 5, 6, 8, 9, 10, 60, 61])] .nil .nil) .nil) (.node 15 [(0, [3, 16, 17, 18])] (.node 11 [(1, [0, 5, 6, 56, 57, 58])] .nil .nil) .nil)) (.node 32 [(0, [3, 4])] (.node 31 [(0, [3, 9, 10, 11])] (.node 21 [(0, [0, 1, 4, 5, 6, 13, 14, 15])] .nil .nil) .nil) (.node 33 [(0, [2, 3, 4, 19, 20, 21])] .nil .nil))) (.node 43 [(0, [0, 3, 4, 5])] (.node 40 [(0, [0, 2, 3, 8])] (.node 37 [(0, [1, 4, 79, 80, 81]), (2, [1, 4, 96, 97, 98])] (.node 36 [(0, [2, 5, 6, 7])] .nil .nil) .nil) (.node 41 [(0, [0, 1, 2, 4, 8, 10, 11, 12, 13, 14, 15, 16])] .nil .nil)) (.node 47 [(0, [0, 7, 8])] (.node 46 [(0, [5, 36, 37, 38])] (.node 44 [(0, [0, 1, 4]), (2, [0, 1, 4, 5, 6])] .nil .nil) .nil) (.node 48 [(0, [0, 1, 4, 5])] .nil .nil)))) (.node 79 [(0, [0, 3, 8, 9, 10, 11]), (2, [0, 3, 8, 9, 12])] (.node 71 [(0, [0, 1, 4])] (.node 63 [(0, [5, 6])] (.node 60 [(0, [0, 2, 4, 13])] (.node 54 [(0, [0, 2, 3, 4])] .nil .nil) .nil) (.node 66 [(0, [2, 3, 6, 7, 8])] .nil .nil)) (.node 74 [(0, [0, 1, 2, 3, 4, 10, 11])] (.node 73 [(0, [0, 1, 4, 12, 13])] (.node 72 [(0, [3, 6, 7, 8])] .nil .nil) .nil) (.node 78 [(0, [0, 1, 2, 3, 8]), (2, [0, 1, 2, 3, 8, 9])] .nil .nil))) (.node 85 [(0, [0, 1, 4, 12, 13]), (2, [0, 1, 4, 12, 13]), (4, [0, 1, 4, 12, 13]), (6, [0, 1, 4, 12, 13]), (8, [0, 1, 4, 12, 13])] (.node 83 [(0, [0, 1, 2, 3, 8, 9, 10]), (2, [0, 1, 2, 3, 9, 10]), (4, [0, 1, 2, 3, 9, 10, 11]), (6, [0, 1, 2, 3, 9, 10, 12])] (.node 82 [(0, [0, 8, 9])] (.node 80 [(0, [0, 1, 8, 9, 10, 11])] .nil .nil) .nil) (.node 84 [(0, [0, 1, 4, 11, 12]), (2, [0, 1, 4, 11, 12]), (4, [0, 1, 4, 11, 12])] .nil .nil)) (.node 113 [(0, [0, 1, 4, 5, 6])] (.node 111 [(0, [0, 3])] (.node 88 [(0, [0, 2, 3, 4, 10])] .nil .nil) .nil) (.node 118 [(0, [0, 1, 2, 7, 8])] .nil .nil))))
def cutT : BT (List (Nat × List Nat)) := .node 46 [(10, [5])] (.node 26 [(12, [0, 2, 3, 10]), (17, [3, 10])] (.node 11 [(16, [0, 5, 6])] (.node 7 [(18, [10, 12])] (.node 5 [(20, [0, 8, 10])] .nil .nil) .nil) (.node 21 [(13, [0, 1, 6, 13, 14, 15]), (14, [6])] (.node 17 [(10, [0, 1]), (21, [0])] .nil .nil) .nil)) (.node 40 [(11, [0, 3, 8]), (12, [3])] (.node 37 [(9, [1, 4]), (14, [1, 4])] (.node 33 [(11, [4])] .nil .nil) .nil) (.node 44 [(2, [0, 1, 4]), (8, [0, 1, 4, 5]), (10, [0])] (.node 41 [(19, [0, 1, 2, 4, 8, 11, 14, 15, 16, 19]), (20, [11, 14, 15])] .nil .nil) .nil))) (.node 79 [(7, [0, 3, 8, 9, 10])] (.node 60 [(9, [0, 2, 4])] (.node 57 [(3, [0, 1]), (6, [1])] (.node 54 [(13, [0, 4]), (16, [3])] .nil .nil) .nil) (.node 70 [(4, [0, 1])] (.node 63 [(11, [5])] .nil .nil) .nil)) (.node 113 [(8, [0, 1])] (.node 111 [(5, [0])] (.node 81 [(11, [0, 3, 11, 12, 13, 14]), (12, [11, 13])] .nil .nil) .nil) (.node 114 [(8, [0, 1, 2])] .nil .nil)))
def methT : List (TypeId × String × FuncId) := [(83, "Flush", 111), (83, "Len", 112), (83, "Read", 113), (83, "Write", 114), (88, "Flush", 115), (88, "Len", 116), (88, "Read", 117), (88, "Write", 118)]
def lc (f cur : Nat) : List Nat := match lcT.find f with
  | some l => (l.lookup cur).getD []
  | none => []
def cutF (f r : Nat) : Option (List Nat) := match cutT.find f with
  | some l => l.lookup r
  | none => none
noncomputable def E : Env := { ty := tyT.find, func := fnT.find, cut := cutF, lcut := lc, meth := methF methT }
end Go.Na
