/- The tables of the abstract evaluator for this program: by program. -/
import Derived.Test.YtcepfilbiahdjaaGrCore
import Derived.Test.YtcepfilbiahdjaaProg
set_option maxRecDepth 100000
namespace Go.Jn
open Go.Gr
def ty0 : TI := { k := .tup, size := 1, bytes := 0, zero := [], plain := false }
def ty1 : TI := { k := .fn, size := 1, bytes := 8, zero := [.nilFn], plain := false }
def ty2 : TI := { k := .int .i64, size := 1, bytes := 8, zero := [.int .i64 0], plain := false }
def ty3 : TI := { k := .int .i64, size := 1, bytes := 8, zero := [.int .i64 0], plain := false }
def ty4 : TI := { k := .bool, size := 1, bytes := 1, zero := [.bool false], plain := false }
def ty5 : TI := { k := .int .u8, size := 1, bytes := 1, zero := [.int .u8 0], plain := false }
def ty6 : TI := { k := .int .u8, size := 1, bytes := 1, zero := [.int .u8 0], plain := false }
def ty7 : TI := { k := .st [(2, 0), (3, 1), (4, 2), (6, 3)], size := 4, bytes := 24, zero := [.int .i64 0, .int .i64 0, .bool false, .int .u8 0], plain := true }
def ty8 : TI := { k := .st [(2, 0), (3, 1), (4, 2), (6, 3)], size := 4, bytes := 24, zero := [.int .i64 0, .int .i64 0, .bool false, .int .u8 0], plain := true }
def ty9 : TI := { k := .str, size := 1, bytes := 16, zero := [.str []], plain := false }
def ty10 : TI := { k := .str, size := 1, bytes := 16, zero := [.str []], plain := false }
def ty11 : TI := { k := .str, size := 1, bytes := 16, zero := [.str []], plain := false }
def ty12 : TI := { k := .int .u64, size := 1, bytes := 8, zero := [.int .u64 0], plain := false }
def ty13 : TI := { k := .st [(9, 0), (12, 1)], size := 2, bytes := 24, zero := [.str [], .int .u64 0], plain := false }
def ty14 : TI := { k := .st [(9, 0), (12, 1)], size := 2, bytes := 24, zero := [.str [], .int .u64 0], plain := false }
def ty15 : TI := { k := .ptr 141, size := 1, bytes := 8, zero := [.ptr none], plain := false }
def ty16 : TI := { k := .ptr 144, size := 1, bytes := 8, zero := [.ptr none], plain := false }
def ty17 : TI := { k := .ptr 153, size := 1, bytes := 8, zero := [.ptr none], plain := false }
def ty18 : TI := { k := .st [(17, 0)], size := 1, bytes := 8, zero := [.ptr none], plain := false }
def ty19 : TI := { k := .st [(17, 0)], size := 1, bytes := 8, zero := [.ptr none], plain := false }
def ty20 : TI := { k := .iface, size := 1, bytes := 16, zero := [.nilIface], plain := false }
def ty21 : TI := { k := .int .i32, size := 1, bytes := 4, zero := [.int .i32 0], plain := false }
def ty22 : TI := { k := .sl 33, size := 1, bytes := 24, zero := [.sl none 0 (.ex 0)], plain := false }
def ty23 : TI := { k := .fn, size := 1, bytes := 8, zero := [.nilFn], plain := false }
def ty24 : TI := { k := .fn, size := 1, bytes := 8, zero := [.nilFn], plain := false }
def ty25 : TI := { k := .ptr 93, size := 1, bytes := 8, zero := [.ptr none], plain := false }
def ty26 : TI := { k := .ptr 78, size := 1, bytes := 8, zero := [.ptr none], plain := false }
def ty27 : TI := { k := .tup, size := 1, bytes := 0, zero := [], plain := false }
def ty28 : TI := { k := .fn, size := 1, bytes := 8, zero := [.nilFn], plain := false }
def ty29 : TI := { k := .sl 3, size := 1, bytes := 24, zero := [.sl none 0 (.ex 0)], plain := false }
def ty30 : TI := { k := .sl 66, size := 1, bytes := 24, zero := [.sl none 0 (.ex 0)], plain := false }
def ty31 : TI := { k := .int .u64, size := 1, bytes := 8, zero := [.int .u64 0], plain := false }
def ty32 : TI := { k := .st [(3, 0), (30, 1), (31, 2), (29, 3), (3, 4)], size := 5, bytes := 72, zero := [.int .i64 0, .sl none 0 (.ex 0), .int .u64 0, .sl none 0 (.ex 0), .int .i64 0], plain := false }
def ty33 : TI := { k := .st [(3, 0), (30, 1), (31, 2), (29, 3), (3, 4)], size := 5, bytes := 72, zero := [.int .i64 0, .sl none 0 (.ex 0), .int .u64 0, .sl none 0 (.ex 0), .int .i64 0], plain := false }
def ty34 : TI := { k := .sl 5, size := 1, bytes := 24, zero := [.sl none 0 (.ex 0)], plain := false }
def ty35 : TI := { k := .tup, size := 1, bytes := 0, zero := [], plain := false }
def ty36 : TI := { k := .fn, size := 1, bytes := 8, zero := [.nilFn], plain := false }
def ty37 : TI := { k := .fn, size := 1, bytes := 8, zero := [.nilFn], plain := false }
def ty38 : TI := { k := .int .i64, size := 1, bytes := 8, zero := [.int .i64 0], plain := false }
def ty39 : TI := { k := .tup, size := 1, bytes := 0, zero := [], plain := false }
def ty40 : TI := { k := .fn, size := 1, bytes := 8, zero := [.nilFn], plain := false }
def ty41 : TI := { k := .fn, size := 1, bytes := 8, zero := [.nilFn], plain := false }
def ty42 : TI := { k := .fn, size := 1, bytes := 8, zero := [.nilFn], plain := false }
def ty43 : TI := { k := .fn, size := 1, bytes := 8, zero := [.nilFn], plain := false }
def ty44 : TI := { k := .fn, size := 1, bytes := 8, zero := [.nilFn], plain := false }
def ty45 : TI := { k := .fn, size := 1, bytes := 8, zero := [.nilFn], plain := false }
def ty46 : TI := { k := .fn, size := 1, bytes := 8, zero := [.nilFn], plain := false }
def ty47 : TI := { k := .fn, size := 1, bytes := 8, zero := [.nilFn], plain := false }
def ty48 : TI := { k := .st [(3, 0), (3, 1), (3, 2), (22, 3)], size := 4, bytes := 48, zero := [.int .i64 0, .int .i64 0, .int .i64 0, .sl none 0 (.ex 0)], plain := false }
def ty49 : TI := { k := .st [(3, 0), (3, 1), (3, 2), (22, 3)], size := 4, bytes := 48, zero := [.int .i64 0, .int .i64 0, .int .i64 0, .sl none 0 (.ex 0)], plain := false }
def ty50 : TI := { k := .ptr 54, size := 1, bytes := 8, zero := [.ptr none], plain := false }
def ty51 : TI := { k := .fn, size := 1, bytes := 8, zero := [.nilFn], plain := false }
def ty52 : TI := { k := .ptr 103, size := 1, bytes := 8, zero := [.ptr none], plain := false }
def ty53 : TI := { k := .st [(3, 0), (3, 1), (25, 2), (26, 3), (25, 4), (52, 5)], size := 6, bytes := 48, zero := [.int .i64 0, .int .i64 0, .ptr none, .ptr none, .ptr none, .ptr none], plain := false }
def ty54 : TI := { k := .st [(3, 0), (3, 1), (25, 2), (26, 3), (25, 4), (52, 5)], size := 6, bytes := 48, zero := [.int .i64 0, .int .i64 0, .ptr none, .ptr none, .ptr none, .ptr none], plain := false }
def ty55 : TI := { k := .fn, size := 1, bytes := 8, zero := [.nilFn], plain := false }
def ty56 : TI := { k := .fn, size := 1, bytes := 8, zero := [.nilFn], plain := false }
def ty57 : TI := { k := .fn, size := 1, bytes := 8, zero := [.nilFn], plain := false }
def ty58 : TI := { k := .fn, size := 1, bytes := 8, zero := [.nilFn], plain := false }
def ty59 : TI := { k := .sl 30, size := 1, bytes := 24, zero := [.sl none 0 (.ex 0)], plain := false }
def ty60 : TI := { k := .fn, size := 1, bytes := 8, zero := [.nilFn], plain := false }
def ty61 : TI := { k := .tup, size := 1, bytes := 0, zero := [], plain := false }
def ty62 : TI := { k := .fn, size := 1, bytes := 8, zero := [.nilFn], plain := false }
def ty63 : TI := { k := .fn, size := 1, bytes := 8, zero := [.nilFn], plain := false }
def ty64 : TI := { k := .fn, size := 1, bytes := 8, zero := [.nilFn], plain := false }
def ty65 : TI := { k := .st [(3, 0), (34, 1)], size := 2, bytes := 32, zero := [.int .i64 0, .sl none 0 (.ex 0)], plain := false }
def ty66 : TI := { k := .st [(3, 0), (34, 1)], size := 2, bytes := 32, zero := [.int .i64 0, .sl none 0 (.ex 0)], plain := false }
def ty67 : TI := { k := .fn, size := 1, bytes := 8, zero := [.nilFn], plain := false }
def ty68 : TI := { k := .fn, size := 1, bytes := 8, zero := [.nilFn], plain := false }
def ty69 : TI := { k := .tup, size := 1, bytes := 0, zero := [], plain := false }
def ty70 : TI := { k := .fn, size := 1, bytes := 8, zero := [.nilFn], plain := false }
def ty71 : TI := { k := .fn, size := 1, bytes := 8, zero := [.nilFn], plain := false }
def ty72 : TI := { k := .iface, size := 1, bytes := 16, zero := [.nilIface], plain := false }
def ty73 : TI := { k := .iface, size := 1, bytes := 16, zero := [.nilIface], plain := false }
def ty74 : TI := { k := .st [(31, 0), (31, 1), (31, 2), (31, 3), (31, 4), (31, 5)], size := 6, bytes := 48, zero := [.int .u64 0, .int .u64 0, .int .u64 0, .int .u64 0, .int .u64 0, .int .u64 0], plain := true }
def ty75 : TI := { k := .st [(31, 0), (31, 1), (31, 2), (31, 3), (31, 4), (31, 5)], size := 6, bytes := 48, zero := [.int .u64 0, .int .u64 0, .int .u64 0, .int .u64 0, .int .u64 0, .int .u64 0], plain := true }
def ty76 : TI := { k := .sl 87, size := 1, bytes := 24, zero := [.sl none 0 (.ex 0)], plain := false }
def ty77 : TI := { k := .st [(73, 0), (3, 1), (3, 2), (75, 3), (76, 9), (31, 10), (31, 11)], size := 12, bytes := 120, zero := [.nilIface, .int .i64 0, .int .i64 0, .int .u64 0, .int .u64 0, .int .u64 0, .int .u64 0, .int .u64 0, .int .u64 0, .sl none 0 (.ex 0), .int .u64 0, .int .u64 0], plain := false }
def ty78 : TI := { k := .st [(73, 0), (3, 1), (3, 2), (75, 3), (76, 9), (31, 10), (31, 11)], size := 12, bytes := 120, zero := [.nilIface, .int .i64 0, .int .i64 0, .int .u64 0, .int .u64 0, .int .u64 0, .int .u64 0, .int .u64 0, .int .u64 0, .sl none 0 (.ex 0), .int .u64 0, .int .u64 0], plain := false }
def ty79 : TI := { k := .fn, size := 1, bytes := 8, zero := [.nilFn], plain := false }
def ty80 : TI := { k := .st [(31, 0), (31, 1), (31, 2), (31, 3), (3, 4), (3, 5), (34, 6)], size := 7, bytes := 72, zero := [.int .u64 0, .int .u64 0, .int .u64 0, .int .u64 0, .int .i64 0, .int .i64 0, .sl none 0 (.ex 0)], plain := false }
def ty81 : TI := { k := .st [(31, 0), (31, 1), (31, 2), (31, 3), (3, 4), (3, 5), (34, 6)], size := 7, bytes := 72, zero := [.int .u64 0, .int .u64 0, .int .u64 0, .int .u64 0, .int .i64 0, .int .i64 0, .sl none 0 (.ex 0)], plain := false }
def ty82 : TI := { k := .fn, size := 1, bytes := 8, zero := [.nilFn], plain := false }
def ty83 : TI := { k := .fn, size := 1, bytes := 8, zero := [.nilFn], plain := false }
def ty84 : TI := { k := .st [(31, 0), (31, 1)], size := 2, bytes := 16, zero := [.int .u64 0, .int .u64 0], plain := true }
def ty85 : TI := { k := .st [(31, 0), (31, 1)], size := 2, bytes := 16, zero := [.int .u64 0, .int .u64 0], plain := true }
def ty86 : TI := { k := .st [(3, 0), (85, 1)], size := 3, bytes := 24, zero := [.int .i64 0, .int .u64 0, .int .u64 0], plain := true }
def ty87 : TI := { k := .st [(3, 0), (85, 1)], size := 3, bytes := 24, zero := [.int .i64 0, .int .u64 0, .int .u64 0], plain := true }
def ty88 : TI := { k := .fn, size := 1, bytes := 8, zero := [.nilFn], plain := false }
def ty89 : TI := { k := .fn, size := 1, bytes := 8, zero := [.nilFn], plain := false }
def ty90 : TI := { k := .sl 9, size := 1, bytes := 24, zero := [.sl none 0 (.ex 0)], plain := false }
def ty91 : TI := { k := .sl 107, size := 1, bytes := 24, zero := [.sl none 0 (.ex 0)], plain := false }
def ty92 : TI := { k := .st [(90, 0), (91, 1), (3, 2)], size := 3, bytes := 56, zero := [.sl none 0 (.ex 0), .sl none 0 (.ex 0), .int .i64 0], plain := false }
def ty93 : TI := { k := .st [(90, 0), (91, 1), (3, 2)], size := 3, bytes := 56, zero := [.sl none 0 (.ex 0), .sl none 0 (.ex 0), .int .i64 0], plain := false }
def ty94 : TI := { k := .fn, size := 1, bytes := 8, zero := [.nilFn], plain := false }
def ty95 : TI := { k := .fn, size := 1, bytes := 8, zero := [.nilFn], plain := false }
def ty96 : TI := { k := .tup, size := 1, bytes := 0, zero := [], plain := false }
def ty97 : TI := { k := .fn, size := 1, bytes := 8, zero := [.nilFn], plain := false }
def ty98 : TI := { k := .fn, size := 1, bytes := 8, zero := [.nilFn], plain := false }
def ty99 : TI := { k := .sl 101, size := 1, bytes := 24, zero := [.sl none 0 (.ex 0)], plain := false }
def ty100 : TI := { k := .st [(31, 0), (31, 1)], size := 2, bytes := 16, zero := [.int .u64 0, .int .u64 0], plain := true }
def ty101 : TI := { k := .st [(31, 0), (31, 1)], size := 2, bytes := 16, zero := [.int .u64 0, .int .u64 0], plain := true }
def ty102 : TI := { k := .st [(25, 0), (3, 1), (3, 2), (31, 3), (31, 4), (31, 5), (31, 6), (31, 7), (29, 8), (99, 9), (101, 10), (31, 12)], size := 13, bytes := 136, zero := [.ptr none, .int .i64 0, .int .i64 0, .int .u64 0, .int .u64 0, .int .u64 0, .int .u64 0, .int .u64 0, .sl none 0 (.ex 0), .sl none 0 (.ex 0), .int .u64 0, .int .u64 0, .int .u64 0], plain := false }
def ty103 : TI := { k := .st [(25, 0), (3, 1), (3, 2), (31, 3), (31, 4), (31, 5), (31, 6), (31, 7), (29, 8), (99, 9), (101, 10), (31, 12)], size := 13, bytes := 136, zero := [.ptr none, .int .i64 0, .int .i64 0, .int .u64 0, .int .u64 0, .int .u64 0, .int .u64 0, .int .u64 0, .sl none 0 (.ex 0), .sl none 0 (.ex 0), .int .u64 0, .int .u64 0, .int .u64 0], plain := false }
def ty104 : TI := { k := .tup, size := 1, bytes := 0, zero := [], plain := false }
def ty105 : TI := { k := .fn, size := 1, bytes := 8, zero := [.nilFn], plain := false }
def ty106 : TI := { k := .st [(3, 0), (9, 1)], size := 2, bytes := 24, zero := [.int .i64 0, .str []], plain := true }
def ty107 : TI := { k := .st [(3, 0), (9, 1)], size := 2, bytes := 24, zero := [.int .i64 0, .str []], plain := true }
def ty108 : TI := { k := .tup, size := 1, bytes := 0, zero := [], plain := false }
def ty109 : TI := { k := .fn, size := 1, bytes := 8, zero := [.nilFn], plain := false }
def ty110 : TI := { k := .fn, size := 1, bytes := 8, zero := [.nilFn], plain := false }
def ty111 : TI := { k := .int .u64, size := 1, bytes := 8, zero := [.int .u64 0], plain := false }
def ty112 : TI := { k := .sl 31, size := 1, bytes := 24, zero := [.sl none 0 (.ex 0)], plain := false }
def ty113 : TI := { k := .fn, size := 1, bytes := 8, zero := [.nilFn], plain := false }
def ty114 : TI := { k := .fn, size := 1, bytes := 8, zero := [.nilFn], plain := false }
def ty115 : TI := { k := .tup, size := 1, bytes := 0, zero := [], plain := false }
def ty116 : TI := { k := .fn, size := 1, bytes := 8, zero := [.nilFn], plain := false }
def ty117 : TI := { k := .fn, size := 1, bytes := 8, zero := [.nilFn], plain := false }
def ty118 : TI := { k := .fn, size := 1, bytes := 8, zero := [.nilFn], plain := false }
def ty119 : TI := { k := .fn, size := 1, bytes := 8, zero := [.nilFn], plain := false }
def ty120 : TI := { k := .tup, size := 1, bytes := 0, zero := [], plain := false }
def ty121 : TI := { k := .fn, size := 1, bytes := 8, zero := [.nilFn], plain := false }
def ty122 : TI := { k := .tup, size := 1, bytes := 0, zero := [], plain := false }
def ty123 : TI := { k := .fn, size := 1, bytes := 8, zero := [.nilFn], plain := false }
def ty124 : TI := { k := .fn, size := 1, bytes := 8, zero := [.nilFn], plain := false }
def ty125 : TI := { k := .tup, size := 1, bytes := 0, zero := [], plain := false }
def ty126 : TI := { k := .fn, size := 1, bytes := 8, zero := [.nilFn], plain := false }
def ty127 : TI := { k := .fn, size := 1, bytes := 8, zero := [.nilFn], plain := false }
def ty128 : TI := { k := .fn, size := 1, bytes := 8, zero := [.nilFn], plain := false }
def ty129 : TI := { k := .tup, size := 1, bytes := 0, zero := [], plain := false }
def ty130 : TI := { k := .fn, size := 1, bytes := 8, zero := [.nilFn], plain := false }
def ty131 : TI := { k := .fn, size := 1, bytes := 8, zero := [.nilFn], plain := false }
def ty132 : TI := { k := .tup, size := 1, bytes := 0, zero := [], plain := false }
def ty133 : TI := { k := .fn, size := 1, bytes := 8, zero := [.nilFn], plain := false }
def ty134 : TI := { k := .arr 6 31, size := 6, bytes := 48, zero := [.int .u64 0, .int .u64 0, .int .u64 0, .int .u64 0, .int .u64 0, .int .u64 0], plain := true }
def ty135 : TI := { k := .fn, size := 1, bytes := 8, zero := [.nilFn], plain := false }
def ty136 : TI := { k := .fn, size := 1, bytes := 8, zero := [.nilFn], plain := false }
def ty137 : TI := { k := .tup, size := 1, bytes := 0, zero := [], plain := false }
def ty138 : TI := { k := .fn, size := 1, bytes := 8, zero := [.nilFn], plain := false }
def ty139 : TI := { k := .fn, size := 1, bytes := 8, zero := [.nilFn], plain := false }
def ty140 : TI := { k := .st [(17, 0), (17, 1), (17, 2), (9, 3)], size := 4, bytes := 40, zero := [.ptr none, .ptr none, .ptr none, .str []], plain := false }
def ty141 : TI := { k := .st [(17, 0), (17, 1), (17, 2), (9, 3)], size := 4, bytes := 40, zero := [.ptr none, .ptr none, .ptr none, .str []], plain := false }
def ty142 : TI := { k := .arr 0 16, size := 0, bytes := 0, zero := [], plain := false }
def ty143 : TI := { k := .st [(142, 0)], size := 0, bytes := 0, zero := [], plain := false }
def ty144 : TI := { k := .st [(142, 0)], size := 0, bytes := 0, zero := [], plain := false }
def ty145 : TI := { k := .int .u32, size := 1, bytes := 4, zero := [.int .u32 0], plain := false }
def ty146 : TI := { k := .int .u8, size := 1, bytes := 1, zero := [.int .u8 0], plain := false }
def ty147 : TI := { k := .int .u8, size := 1, bytes := 1, zero := [.int .u8 0], plain := false }
def ty148 : TI := { k := .fn, size := 1, bytes := 8, zero := [.nilFn], plain := false }
def ty149 : TI := { k := .ptr 5, size := 1, bytes := 8, zero := [.ptr none], plain := false }
def ty150 : TI := { k := .int .i32, size := 1, bytes := 4, zero := [.int .i32 0], plain := false }
def ty151 : TI := { k := .int .i32, size := 1, bytes := 4, zero := [.int .i32 0], plain := false }
def ty152 : TI := { k := .st [(12, 0), (12, 1), (145, 2), (146, 3), (5, 4), (5, 5), (147, 6), (148, 7), (149, 8), (150, 9), (151, 10)], size := 11, bytes := 48, zero := [.int .u64 0, .int .u64 0, .int .u32 0, .int .u8 0, .int .u8 0, .int .u8 0, .int .u8 0, .nilFn, .ptr none, .int .i32 0, .int .i32 0], plain := false }
def ty153 : TI := { k := .st [(12, 0), (12, 1), (145, 2), (146, 3), (5, 4), (5, 5), (147, 6), (148, 7), (149, 8), (150, 9), (151, 10)], size := 11, bytes := 48, zero := [.int .u64 0, .int .u64 0, .int .u32 0, .int .u8 0, .int .u8 0, .int .u8 0, .int .u8 0, .nilFn, .ptr none, .int .i32 0, .int .i32 0], plain := false }
def tyT : BT TI := .node 77 ty77 (.node 38 ty38 (.node 19 ty19 (.node 9 ty9 (.node 4 ty4 (.node 2 ty2 (.node 1 ty1 (.node 0 ty0 .nil .nil) .nil) (.node 3 ty3 .nil .nil)) (.node 7 ty7 (.node 6 ty6 (.node 5 ty5 .nil .nil) .nil) (.node 8 ty8 .nil .nil))) (.node 14 ty14 (.node 12 ty12 (.node 11 ty11 (.node 10 ty10 .nil .nil) .nil) (.node 13 ty13 .nil .nil)) (.node 17 ty17 (.node 16 ty16 (.node 15 ty15 .nil .nil) .nil) (.node 18 ty18 .nil .nil)))) (.node 29 ty29 (.node 24 ty24 (.node 22 ty22 (.node 21 ty21 (.node 20 ty20 .nil .nil) .nil) (.node 23 ty23 .nil .nil)) (.node 27 ty27 (.node 26 ty26 (.node 25 ty25 .nil .nil) .nil) (.node 28 ty28 .nil .nil))) (.node 34 ty34 (.node 32 ty32 (.node 31 ty31 (.node 30 ty30 .nil .nil) .nil) (.node 33 ty33 .nil .nil)) (.node 36 ty36 (.node 35 ty35 .nil .nil) (.node 37 ty37 .nil .nil))))) (.node 58 ty58 (.node 48 ty48 (.node 43 ty43 (.node 41 ty41 (.node 40 ty40 (.node 39 ty39 .nil .nil) .nil) (.node 42 ty42 .nil .nil)) (.node 46 ty46 (.node 45 ty45 (.node 44 ty44 .nil .nil) .nil) (.node 47 ty47 .nil .nil))) (.node 53 ty53 (.node 51 ty51 (.node 50 ty50 (.node 49 ty49 .nil .nil) .nil) (.node 52 ty52 .nil .nil)) (.node 56 ty56 (.node 55 ty55 (.node 54 ty54 .nil .nil) .nil) (.node 57 ty57 .nil .nil)))) (.node 68 ty68 (.node 63 ty63 (.node 61 ty61 (.node 60 ty60 (.node 59 ty59 .nil .nil) .nil) (.node 62 ty62 .nil .nil)) (.node 66 ty66 (.node 65 ty65 (.node 64 ty64 .nil .nil) .nil) (.node 67 ty67 .nil .nil))) (.node 73 ty73 (.node 71 ty71 (.node 70 ty70 (.node 69 ty69 .nil .nil) .nil) (.node 72 ty72 .nil .nil)) (.node 75 ty75 (.node 74 ty74 .nil .nil) (.node 76 ty76 .nil .nil)))))) (.node 116 ty116 (.node 97 ty97 (.node 87 ty87 (.node 82 ty82 (.node 80 ty80 (.node 79 ty79 (.node 78 ty78 .nil .nil) .nil) (.node 81 ty81 .nil .nil)) (.node 85 ty85 (.node 84 ty84 (.node 83 ty83 .nil .nil) .nil) (.node 86 ty86 .nil .nil))) (.node 92 ty92 (.node 90 ty90 (.node 89 ty89 (.node 88 ty88 .nil .nil) .nil) (.node 91 ty91 .nil .nil)) (.node 95 ty95 (.node 94 ty94 (.node 93 ty93 .nil .nil) .nil) (.node 96 ty96 .nil .nil)))) (.node 107 ty107 (.node 102 ty102 (.node 100 ty100 (.node 99 ty99 (.node 98 ty98 .nil .nil) .nil) (.node 101 ty101 .nil .nil)) (.node 105 ty105 (.node 104 ty104 (.node 103 ty103 .nil .nil) .nil) (.node 106 ty106 .nil .nil))) (.node 112 ty112 (.node 110 ty110 (.node 109 ty109 (.node 108 ty108 .nil .nil) .nil) (.node 111 ty111 .nil .nil)) (.node 114 ty114 (.node 113 ty113 .nil .nil) (.node 115 ty115 .nil .nil))))) (.node 135 ty135 (.node 126 ty126 (.node 121 ty121 (.node 119 ty119 (.node 118 ty118 (.node 117 ty117 .nil .nil) .nil) (.node 120 ty120 .nil .nil)) (.node 124 ty124 (.node 123 ty123 (.node 122 ty122 .nil .nil) .nil) (.node 125 ty125 .nil .nil))) (.node 131 ty131 (.node 129 ty129 (.node 128 ty128 (.node 127 ty127 .nil .nil) .nil) (.node 130 ty130 .nil .nil)) (.node 133 ty133 (.node 132 ty132 .nil .nil) (.node 134 ty134 .nil .nil)))) (.node 145 ty145 (.node 140 ty140 (.node 138 ty138 (.node 137 ty137 (.node 136 ty136 .nil .nil) .nil) (.node 139 ty139 .nil .nil)) (.node 143 ty143 (.node 142 ty142 (.node 141 ty141 .nil .nil) .nil) (.node 144 ty144 .nil .nil))) (.node 150 ty150 (.node 148 ty148 (.node 147 ty147 (.node 146 ty146 .nil .nil) .nil) (.node 149 ty149 .nil .nil)) (.node 152 ty152 (.node 151 ty151 .nil .nil) (.node 153 ty153 .nil .nil))))))
noncomputable def fnT : BT Func := .node 42 Go.Proofs.Try.f42 (.node 22 Go.Proofs.Try.f22 (.node 12 Go.Proofs.Try.f12 (.node 7 Go.Proofs.Try.f7 (.node 5 Go.Proofs.Try.f5 (.node 4 Go.Proofs.Try.f4 (.node 3 Go.Proofs.Try.f3 .nil .nil) .nil) (.node 6 Go.Proofs.Try.f6 .nil .nil)) (.node 10 Go.Proofs.Try.f10 (.node 9 Go.Proofs.Try.f9 (.node 8 Go.Proofs.Try.f8 .nil .nil) .nil) (.node 11 Go.Proofs.Try.f11 .nil .nil))) (.node 17 Go.Proofs.Try.f17 (.node 15 Go.Proofs.Try.f15 (.node 14 Go.Proofs.Try.f14 (.node 13 Go.Proofs.Try.f13 .nil .nil) .nil) (.node 16 Go.Proofs.Try.f16 .nil .nil)) (.node 20 Go.Proofs.Try.f20 (.node 19 Go.Proofs.Try.f19 (.node 18 Go.Proofs.Try.f18 .nil .nil) .nil) (.node 21 Go.Proofs.Try.f21 .nil .nil)))) (.node 32 Go.Proofs.Try.f32 (.node 27 Go.Proofs.Try.f27 (.node 25 Go.Proofs.Try.f25 (.node 24 Go.Proofs.Try.f24 (.node 23 Go.Proofs.Try.f23 .nil .nil) .nil) (.node 26 Go.Proofs.Try.f26 .nil .nil)) (.node 30 Go.Proofs.Try.f30 (.node 29 Go.Proofs.Try.f29 (.node 28 Go.Proofs.Try.f28 .nil .nil) .nil) (.node 31 Go.Proofs.Try.f31 .nil .nil))) (.node 37 Go.Proofs.Try.f37 (.node 35 Go.Proofs.Try.f35 (.node 34 Go.Proofs.Try.f34 (.node 33 Go.Proofs.Try.f33 .nil .nil) .nil) (.node 36 Go.Proofs.Try.f36 .nil .nil)) (.node 40 Go.Proofs.Try.f40 (.node 39 Go.Proofs.Try.f39 (.node 38 Go.Proofs.Try.f38 .nil .nil) .nil) (.node 41 Go.Proofs.Try.f41 .nil .nil))))) (.node 62 Go.Proofs.Try.f62 (.node 52 Go.Proofs.Try.f52 (.node 47 Go.Proofs.Try.f47 (.node 45 Go.Proofs.Try.f45 (.node 44 Go.Proofs.Try.f44 (.node 43 Go.Proofs.Try.f43 .nil .nil) .nil) (.node 46 Go.Proofs.Try.f46 .nil .nil)) (.node 50 Go.Proofs.Try.f50 (.node 49 Go.Proofs.Try.f49 (.node 48 Go.Proofs.Try.f48 .nil .nil) .nil) (.node 51 Go.Proofs.Try.f51 .nil .nil))) (.node 57 Go.Proofs.Try.f57 (.node 55 Go.Proofs.Try.f55 (.node 54 Go.Proofs.Try.f54 (.node 53 Go.Proofs.Try.f53 .nil .nil) .nil) (.node 56 Go.Proofs.Try.f56 .nil .nil)) (.node 60 Go.Proofs.Try.f60 (.node 59 Go.Proofs.Try.f59 (.node 58 Go.Proofs.Try.f58 .nil .nil) .nil) (.node 61 Go.Proofs.Try.f61 .nil .nil)))) (.node 72 Go.Proofs.Try.f72 (.node 67 Go.Proofs.Try.f67 (.node 65 Go.Proofs.Try.f65 (.node 64 Go.Proofs.Try.f64 (.node 63 Go.Proofs.Try.f63 .nil .nil) .nil) (.node 66 Go.Proofs.Try.f66 .nil .nil)) (.node 70 Go.Proofs.Try.f70 (.node 69 Go.Proofs.Try.f69 (.node 68 Go.Proofs.Try.f68 .nil .nil) .nil) (.node 71 Go.Proofs.Try.f71 .nil .nil))) (.node 77 Go.Proofs.Try.f77 (.node 75 Go.Proofs.Try.f75 (.node 74 Go.Proofs.Try.f74 (.node 73 Go.Proofs.Try.f73 .nil .nil) .nil) (.node 76 Go.Proofs.Try.f76 .nil .nil)) (.node 80 Go.Proofs.Try.f80 (.node 79 Go.Proofs.Try.f79 (.node 78 Go.Proofs.Try.f78 .nil .nil) .nil) (.node 97 Go.Proofs.Try.f97 .nil .nil)))))
def lcT : BT (List (Nat × List Nat)) := .node 35 [(0, [2, 5, 6, 7])] (.node 19 [(0, [0, 1, 2, 6, 8]), (2, [0, 1, 6, 46])] (.node 11 [(0, [0, 4, 5, 6, 8, 9, 10, 60, 61])] (.node 5 [(0, [0, 1, 4, 5, 6, 7, 8, 9, 10])] (.node 4 [(0, [2, 6, 7, 8])] (.node 3 [(0, [0, 1, 4, 6, 7, 8, 9]), (3, [0, 1, 6, 7, 8, 9, 10, 16])] .nil .nil) .nil) (.node 9 [(0, [0, 2, 3, 4, 5])] (.node 6 [(0, [0, 3, 4, 5]), (2, [0, 3, 4, 5, 6])] .nil .nil) .nil)) (.node 17 [(0, [3, 16, 17, 18])] (.node 16 [(1, [0, 5, 6, 56, 57, 58])] (.node 12 [(0, [0, 3, 4])] .nil .nil) .nil) (.node 18 [(0, [0, 3, 4, 5])] .nil .nil))) (.node 26 [(0, [0, 1, 4, 5])] (.node 24 [(0, [0, 1, 4]), (2, [0, 1, 4, 5, 6])] (.node 23 [(2, [5, 6, 7, 8, 9, 10]), (4, [5, 6, 7, 8, 9, 10, 11])] (.node 20 [(0, [0, 1, 2, 6, 8]), (2, [0, 1, 6, 10])] .nil .nil) .nil) (.node 25 [(0, [6, 7, 8, 10, 12, 13, 14])] .nil .nil)) (.node 33 [(0, [2, 3, 4, 19, 20, 21])] (.node 32 [(0, [0, 1, 7])] (.node 30 [(0, [0, 3, 4])] .nil .nil) .nil) (.node 34 [(0, [3, 14, 15, 16])] .nil .nil)))) (.node 59 [(0, [0, 1, 4, 5, 6])] (.node 50 [(0, [0, 4, 5, 6, 8, 9])] (.node 44 [(0, [0, 3])] (.node 41 [(0, [5, 36, 37, 38])] (.node 36 [(0, [1, 4, 79, 80, 81]), (2, [1, 4, 96, 97, 98])] .nil .nil) .nil) (.node 47 [(0, [0, 1, 4, 5]), (2, [0, 1, 4, 6])] .nil .nil)) (.node 54 [(0, [0, 1, 2, 4, 8, 10, 11, 12, 13, 14, 15, 16])] (.node 53 [(0, [0, 2, 3, 8])] (.node 52 [(0, [0, 1, 5, 6, 7])] .nil .nil) .nil) (.node 55 [(0, [0, 1, 4, 5])] .nil .nil))) (.node 72 [(0, [0, 1, 4])] (.node 68 [(0, [0, 2, 4, 13])] (.node 63 [(0, [0, 3, 4])] (.node 61 [(0, [0, 1, 4, 5, 6]), (2, [0, 1, 4, 5, 6, 7, 9, 10, 11])] .nil .nil) .nil) (.node 71 [(0, [5, 6])] .nil .nil)) (.node 77 [(0, [3, 6, 7, 8])] (.node 76 [(0, [0, 2, 3, 4, 5])] (.node 73 [(0, [0, 1, 2, 7, 8])] .nil .nil) .nil) (.node 78 [(0, [0, 1, 4, 12, 13])] .nil .nil))))
def cutT : BT (List (Nat × List Nat)) := .node 43 [(8, [0, 1, 2])] (.node 23 [(21, [5, 6, 7, 8, 9, 10]), (26, [6, 7, 8, 9])] (.node 16 [(16, [0, 5, 6])] (.node 9 [(10, [4])] (.node 6 [(4, [0, 3, 4, 5]), (10, [0, 3, 4])] .nil .nil) (.node 11 [(20, [0, 8, 10])] .nil .nil)) (.node 20 [(10, [0, 1]), (18, [0])] (.node 19 [(10, [0, 1]), (21, [0])] .nil .nil) .nil)) (.node 33 [(11, [4])] (.node 25 [(18, [10, 12])] (.node 24 [(2, [0, 1, 4]), (8, [0, 1, 4, 5]), (10, [0])] .nil .nil) .nil) (.node 41 [(10, [5])] (.node 36 [(9, [1, 4]), (14, [1, 4])] .nil .nil) .nil))) (.node 59 [(8, [0, 1])] (.node 50 [(16, [0, 8])] (.node 47 [(8, [0, 1])] (.node 44 [(5, [0])] .nil .nil) .nil) (.node 53 [(11, [0, 3, 8]), (12, [3])] (.node 52 [(12, [0, 1, 5, 6])] .nil .nil) .nil)) (.node 68 [(9, [0, 2, 4])] (.node 62 [(9, [0, 5, 7])] (.node 61 [(17, [0, 1, 5, 6, 7, 9, 10])] .nil .nil) .nil) (.node 76 [(11, [4])] (.node 71 [(11, [5])] .nil .nil) .nil)))
def methT : List (TypeId × String × FuncId) := [(25, "Flush", 44), (25, "Len", 97), (25, "Read", 59), (25, "Write", 43)]
def lc (f cur : Nat) : List Nat := match lcT.find f with
  | some l => (l.lookup cur).getD []
  | none => []
def cutF (f r : Nat) : Option (List Nat) := match cutT.find f with
  | some l => l.lookup r
  | none => none
noncomputable def E : Env := { ty := tyT.find, func := fnT.find, cut := cutF, lcut := lc, meth := methF methT }
end Go.Jn
