/- The tables of the abstract evaluator for this program: by program. -/
import Derived.Test.YteakdhikjddogaaDoorGrCore
import Derived.Test.YteakdhikjddogaaDoorProg
set_option maxRecDepth 100000
namespace Go.Ct
open Go.Gr
def ty0 : TI := { k := .tup, size := 1, bytes := 0, zero := [], plain := false }
def ty1 : TI := { k := .fn, size := 1, bytes := 8, zero := [.nilFn], plain := false }
def ty2 : TI := { k := .int .i64, size := 1, bytes := 8, zero := [.int .i64 0], plain := false }
def ty3 : TI := { k := .int .i64, size := 1, bytes := 8, zero := [.int .i64 0], plain := false }
def ty4 : TI := { k := .bool, size := 1, bytes := 1, zero := [.bool false], plain := false }
def ty5 : TI := { k := .int .u8, size := 1, bytes := 1, zero := [.int .u8 0], plain := false }
def ty6 : TI := { k := .int .u8, size := 1, bytes := 1, zero := [.int .u8 0], plain := false }
def ty7 : TI := { k := .st [(2, 0), (3, 1), (4, 2), (6, 3)], size := 4, bytes := 24, zero := [.int .i64 0, .int .i64 0, .bool false, .int .u8 0], plain := true }
def ty8 : TI := { k := .st [(2, 0), (3, 1), (4, 2), (6, 3)], size := 4, bytes := 24, zero := [.int .i64 0, .int .i64 0, .bool false, .int .u8 0], plain := true }
def ty9 : TI := { k := .str, size := 1, bytes := 16, zero := [.str []], plain := false }
def ty10 : TI := { k := .str, size := 1, bytes := 16, zero := [.str []], plain := false }
def ty11 : TI := { k := .str, size := 1, bytes := 16, zero := [.str []], plain := false }
def ty12 : TI := { k := .int .u64, size := 1, bytes := 8, zero := [.int .u64 0], plain := false }
def ty13 : TI := { k := .st [(9, 0), (12, 1)], size := 2, bytes := 24, zero := [.str [], .int .u64 0], plain := false }
def ty14 : TI := { k := .st [(9, 0), (12, 1)], size := 2, bytes := 24, zero := [.str [], .int .u64 0], plain := false }
def ty15 : TI := { k := .ptr 163, size := 1, bytes := 8, zero := [.ptr none], plain := false }
def ty16 : TI := { k := .ptr 166, size := 1, bytes := 8, zero := [.ptr none], plain := false }
def ty17 : TI := { k := .ptr 173, size := 1, bytes := 8, zero := [.ptr none], plain := false }
def ty18 : TI := { k := .st [(17, 0)], size := 1, bytes := 8, zero := [.ptr none], plain := false }
def ty19 : TI := { k := .st [(17, 0)], size := 1, bytes := 8, zero := [.ptr none], plain := false }
def ty20 : TI := { k := .iface, size := 1, bytes := 16, zero := [.nilIface], plain := false }
def ty21 : TI := { k := .int .i32, size := 1, bytes := 4, zero := [.int .i32 0], plain := false }
def ty22 : TI := { k := .sl 42, size := 1, bytes := 24, zero := [.sl none 0 (.ex 0)], plain := false }
def ty23 : TI := { k := .st [(3, 0), (22, 1)], size := 2, bytes := 32, zero := [.int .i64 0, .sl none 0 (.ex 0)], plain := false }
def ty24 : TI := { k := .st [(3, 0), (22, 1)], size := 2, bytes := 32, zero := [.int .i64 0, .sl none 0 (.ex 0)], plain := false }
def ty25 : TI := { k := .sl 32, size := 1, bytes := 24, zero := [.sl none 0 (.ex 0)], plain := false }
def ty26 : TI := { k := .fn, size := 1, bytes := 8, zero := [.nilFn], plain := false }
def ty27 : TI := { k := .fn, size := 1, bytes := 8, zero := [.nilFn], plain := false }
def ty28 : TI := { k := .fn, size := 1, bytes := 8, zero := [.nilFn], plain := false }
def ty29 : TI := { k := .sl 4, size := 1, bytes := 24, zero := [.sl none 0 (.ex 0)], plain := false }
def ty30 : TI := { k := .fn, size := 1, bytes := 8, zero := [.nilFn], plain := false }
def ty31 : TI := { k := .fn, size := 1, bytes := 8, zero := [.nilFn], plain := false }
def ty32 : TI := { k := .int .u64, size := 1, bytes := 8, zero := [.int .u64 0], plain := false }
def ty33 : TI := { k := .fn, size := 1, bytes := 8, zero := [.nilFn], plain := false }
def ty34 : TI := { k := .fn, size := 1, bytes := 8, zero := [.nilFn], plain := false }
def ty35 : TI := { k := .int .i64, size := 1, bytes := 8, zero := [.int .i64 0], plain := false }
def ty36 : TI := { k := .fn, size := 1, bytes := 8, zero := [.nilFn], plain := false }
def ty37 : TI := { k := .fn, size := 1, bytes := 8, zero := [.nilFn], plain := false }
def ty38 : TI := { k := .fn, size := 1, bytes := 8, zero := [.nilFn], plain := false }
def ty39 : TI := { k := .st [(24, 0), (25, 2), (3, 3), (3, 4)], size := 5, bytes := 72, zero := [.int .i64 0, .sl none 0 (.ex 0), .sl none 0 (.ex 0), .int .i64 0, .int .i64 0], plain := false }
def ty40 : TI := { k := .st [(24, 0), (25, 2), (3, 3), (3, 4)], size := 5, bytes := 72, zero := [.int .i64 0, .sl none 0 (.ex 0), .sl none 0 (.ex 0), .int .i64 0, .int .i64 0], plain := false }
def ty41 : TI := { k := .st [(32, 0), (3, 1)], size := 2, bytes := 16, zero := [.int .u64 0, .int .i64 0], plain := true }
def ty42 : TI := { k := .st [(32, 0), (3, 1)], size := 2, bytes := 16, zero := [.int .u64 0, .int .i64 0], plain := true }
def ty43 : TI := { k := .fn, size := 1, bytes := 8, zero := [.nilFn], plain := false }
def ty44 : TI := { k := .int .u32, size := 1, bytes := 4, zero := [.int .u32 0], plain := false }
def ty45 : TI := { k := .ptr 85, size := 1, bytes := 8, zero := [.ptr none], plain := false }
def ty46 : TI := { k := .fn, size := 1, bytes := 8, zero := [.nilFn], plain := false }
def ty47 : TI := { k := .tup, size := 1, bytes := 0, zero := [], plain := false }
def ty48 : TI := { k := .fn, size := 1, bytes := 8, zero := [.nilFn], plain := false }
def ty49 : TI := { k := .fn, size := 1, bytes := 8, zero := [.nilFn], plain := false }
def ty50 : TI := { k := .fn, size := 1, bytes := 8, zero := [.nilFn], plain := false }
def ty51 : TI := { k := .fn, size := 1, bytes := 8, zero := [.nilFn], plain := false }
def ty52 : TI := { k := .fn, size := 1, bytes := 8, zero := [.nilFn], plain := false }
def ty53 : TI := { k := .sl 60, size := 1, bytes := 24, zero := [.sl none 0 (.ex 0)], plain := false }
def ty54 : TI := { k := .fn, size := 1, bytes := 8, zero := [.nilFn], plain := false }
def ty55 : TI := { k := .ptr 58, size := 1, bytes := 8, zero := [.ptr none], plain := false }
def ty56 : TI := { k := .sl 65, size := 1, bytes := 24, zero := [.sl none 0 (.ex 0)], plain := false }
def ty57 : TI := { k := .st [(56, 0), (32, 1), (32, 2)], size := 3, bytes := 40, zero := [.sl none 0 (.ex 0), .int .u64 0, .int .u64 0], plain := false }
def ty58 : TI := { k := .st [(56, 0), (32, 1), (32, 2)], size := 3, bytes := 40, zero := [.sl none 0 (.ex 0), .int .u64 0, .int .u64 0], plain := false }
def ty59 : TI := { k := .st [(3, 0), (32, 1), (9, 2), (32, 3), (44, 4), (9, 5), (24, 6)], size := 8, bytes := 96, zero := [.int .i64 0, .int .u64 0, .str [], .int .u64 0, .int .u32 0, .str [], .int .i64 0, .sl none 0 (.ex 0)], plain := false }
def ty60 : TI := { k := .st [(3, 0), (32, 1), (9, 2), (32, 3), (44, 4), (9, 5), (24, 6)], size := 8, bytes := 96, zero := [.int .i64 0, .int .u64 0, .str [], .int .u64 0, .int .u32 0, .str [], .int .i64 0, .sl none 0 (.ex 0)], plain := false }
def ty61 : TI := { k := .tup, size := 1, bytes := 0, zero := [], plain := false }
def ty62 : TI := { k := .fn, size := 1, bytes := 8, zero := [.nilFn], plain := false }
def ty63 : TI := { k := .fn, size := 1, bytes := 8, zero := [.nilFn], plain := false }
def ty64 : TI := { k := .st [(44, 0), (32, 1), (9, 2), (32, 3)], size := 4, bytes := 40, zero := [.int .u32 0, .int .u64 0, .str [], .int .u64 0], plain := true }
def ty65 : TI := { k := .st [(44, 0), (32, 1), (9, 2), (32, 3)], size := 4, bytes := 40, zero := [.int .u32 0, .int .u64 0, .str [], .int .u64 0], plain := true }
def ty66 : TI := { k := .sl 44, size := 1, bytes := 24, zero := [.sl none 0 (.ex 0)], plain := false }
def ty67 : TI := { k := .tup, size := 1, bytes := 0, zero := [], plain := false }
def ty68 : TI := { k := .fn, size := 1, bytes := 8, zero := [.nilFn], plain := false }
def ty69 : TI := { k := .fn, size := 1, bytes := 8, zero := [.nilFn], plain := false }
def ty70 : TI := { k := .tup, size := 1, bytes := 0, zero := [], plain := false }
def ty71 : TI := { k := .fn, size := 1, bytes := 8, zero := [.nilFn], plain := false }
def ty72 : TI := { k := .fn, size := 1, bytes := 8, zero := [.nilFn], plain := false }
def ty73 : TI := { k := .fn, size := 1, bytes := 8, zero := [.nilFn], plain := false }
def ty74 : TI := { k := .sl 9, size := 1, bytes := 24, zero := [.sl none 0 (.ex 0)], plain := false }
def ty75 : TI := { k := .fn, size := 1, bytes := 8, zero := [.nilFn], plain := false }
def ty76 : TI := { k := .sl 5, size := 1, bytes := 24, zero := [.sl none 0 (.ex 0)], plain := false }
def ty77 : TI := { k := .fn, size := 1, bytes := 8, zero := [.nilFn], plain := false }
def ty78 : TI := { k := .fn, size := 1, bytes := 8, zero := [.nilFn], plain := false }
def ty79 : TI := { k := .mp 32 4, size := 1, bytes := 8, zero := [.mp none], plain := false }
def ty80 : TI := { k := .fn, size := 1, bytes := 8, zero := [.nilFn], plain := false }
def ty81 : TI := { k := .fn, size := 1, bytes := 8, zero := [.nilFn], plain := false }
def ty82 : TI := { k := .fn, size := 1, bytes := 8, zero := [.nilFn], plain := false }
def ty83 : TI := { k := .fn, size := 1, bytes := 8, zero := [.nilFn], plain := false }
def ty84 : TI := { k := .st [(56, 0), (32, 1), (32, 2)], size := 3, bytes := 40, zero := [.sl none 0 (.ex 0), .int .u64 0, .int .u64 0], plain := false }
def ty85 : TI := { k := .st [(56, 0), (32, 1), (32, 2)], size := 3, bytes := 40, zero := [.sl none 0 (.ex 0), .int .u64 0, .int .u64 0], plain := false }
def ty86 : TI := { k := .fn, size := 1, bytes := 8, zero := [.nilFn], plain := false }
def ty87 : TI := { k := .fn, size := 1, bytes := 8, zero := [.nilFn], plain := false }
def ty88 : TI := { k := .tup, size := 1, bytes := 0, zero := [], plain := false }
def ty89 : TI := { k := .fn, size := 1, bytes := 8, zero := [.nilFn], plain := false }
def ty90 : TI := { k := .tup, size := 1, bytes := 0, zero := [], plain := false }
def ty91 : TI := { k := .fn, size := 1, bytes := 8, zero := [.nilFn], plain := false }
def ty92 : TI := { k := .fn, size := 1, bytes := 8, zero := [.nilFn], plain := false }
def ty93 : TI := { k := .tup, size := 1, bytes := 0, zero := [], plain := false }
def ty94 : TI := { k := .fn, size := 1, bytes := 8, zero := [.nilFn], plain := false }
def ty95 : TI := { k := .fn, size := 1, bytes := 8, zero := [.nilFn], plain := false }
def ty96 : TI := { k := .tup, size := 1, bytes := 0, zero := [], plain := false }
def ty97 : TI := { k := .fn, size := 1, bytes := 8, zero := [.nilFn], plain := false }
def ty98 : TI := { k := .iface, size := 1, bytes := 16, zero := [.nilIface], plain := false }
def ty99 : TI := { k := .iface, size := 1, bytes := 16, zero := [.nilIface], plain := false }
def ty100 : TI := { k := .tup, size := 1, bytes := 0, zero := [], plain := false }
def ty101 : TI := { k := .fn, size := 1, bytes := 8, zero := [.nilFn], plain := false }
def ty102 : TI := { k := .fn, size := 1, bytes := 8, zero := [.nilFn], plain := false }
def ty103 : TI := { k := .fn, size := 1, bytes := 8, zero := [.nilFn], plain := false }
def ty104 : TI := { k := .fn, size := 1, bytes := 8, zero := [.nilFn], plain := false }
def ty105 : TI := { k := .fn, size := 1, bytes := 8, zero := [.nilFn], plain := false }
def ty106 : TI := { k := .fn, size := 1, bytes := 8, zero := [.nilFn], plain := false }
def ty107 : TI := { k := .fn, size := 1, bytes := 8, zero := [.nilFn], plain := false }
def ty108 : TI := { k := .fn, size := 1, bytes := 8, zero := [.nilFn], plain := false }
def ty109 : TI := { k := .fn, size := 1, bytes := 8, zero := [.nilFn], plain := false }
def ty110 : TI := { k := .fn, size := 1, bytes := 8, zero := [.nilFn], plain := false }
def ty111 : TI := { k := .fn, size := 1, bytes := 8, zero := [.nilFn], plain := false }
def ty112 : TI := { k := .fn, size := 1, bytes := 8, zero := [.nilFn], plain := false }
def ty113 : TI := { k := .int .u64, size := 1, bytes := 8, zero := [.int .u64 0], plain := false }
def ty114 : TI := { k := .fn, size := 1, bytes := 8, zero := [.nilFn], plain := false }
def ty115 : TI := { k := .fn, size := 1, bytes := 8, zero := [.nilFn], plain := false }
def ty116 : TI := { k := .fn, size := 1, bytes := 8, zero := [.nilFn], plain := false }
def ty117 : TI := { k := .int .i64, size := 1, bytes := 8, zero := [.int .i64 0], plain := false }
def ty118 : TI := { k := .fn, size := 1, bytes := 8, zero := [.nilFn], plain := false }
def ty119 : TI := { k := .fn, size := 1, bytes := 8, zero := [.nilFn], plain := false }
def ty120 : TI := { k := .ptr 138, size := 1, bytes := 8, zero := [.ptr none], plain := false }
def ty121 : TI := { k := .fn, size := 1, bytes := 8, zero := [.nilFn], plain := false }
def ty122 : TI := { k := .fn, size := 1, bytes := 8, zero := [.nilFn], plain := false }
def ty123 : TI := { k := .fn, size := 1, bytes := 8, zero := [.nilFn], plain := false }
def ty124 : TI := { k := .int .i64, size := 1, bytes := 8, zero := [.int .i64 0], plain := false }
def ty125 : TI := { k := .tup, size := 1, bytes := 0, zero := [], plain := false }
def ty126 : TI := { k := .fn, size := 1, bytes := 8, zero := [.nilFn], plain := false }
def ty127 : TI := { k := .fn, size := 1, bytes := 8, zero := [.nilFn], plain := false }
def ty128 : TI := { k := .fn, size := 1, bytes := 8, zero := [.nilFn], plain := false }
def ty129 : TI := { k := .tup, size := 1, bytes := 0, zero := [], plain := false }
def ty130 : TI := { k := .fn, size := 1, bytes := 8, zero := [.nilFn], plain := false }
def ty131 : TI := { k := .fn, size := 1, bytes := 8, zero := [.nilFn], plain := false }
def ty132 : TI := { k := .fn, size := 1, bytes := 8, zero := [.nilFn], plain := false }
def ty133 : TI := { k := .arr 24 5, size := 24, bytes := 24, zero := List.replicate 24 (.int .u8 0 : AV), plain := true }
def ty134 : TI := { k := .tup, size := 1, bytes := 0, zero := [], plain := false }
def ty135 : TI := { k := .fn, size := 1, bytes := 8, zero := [.nilFn], plain := false }
def ty136 : TI := { k := .fn, size := 1, bytes := 8, zero := [.nilFn], plain := false }
def ty137 : TI := { k := .st [(9, 0), (9, 1), (99, 2)], size := 3, bytes := 48, zero := [.str [], .str [], .nilIface], plain := false }
def ty138 : TI := { k := .st [(9, 0), (9, 1), (99, 2)], size := 3, bytes := 48, zero := [.str [], .str [], .nilIface], plain := false }
def ty139 : TI := { k := .fn, size := 1, bytes := 8, zero := [.nilFn], plain := false }
def ty140 : TI := { k := .int .u64, size := 1, bytes := 8, zero := [.int .u64 0], plain := false }
def ty141 : TI := { k := .fn, size := 1, bytes := 8, zero := [.nilFn], plain := false }
def ty142 : TI := { k := .fn, size := 1, bytes := 8, zero := [.nilFn], plain := false }
def ty143 : TI := { k := .fn, size := 1, bytes := 8, zero := [.nilFn], plain := false }
def ty144 : TI := { k := .ptr 3, size := 1, bytes := 8, zero := [.ptr none], plain := false }
def ty145 : TI := { k := .fn, size := 1, bytes := 8, zero := [.nilFn], plain := false }
def ty146 : TI := { k := .fn, size := 1, bytes := 8, zero := [.nilFn], plain := false }
def ty147 : TI := { k := .fn, size := 1, bytes := 8, zero := [.nilFn], plain := false }
def ty148 : TI := { k := .arr 20 32, size := 20, bytes := 160, zero := List.replicate 20 (.int .u64 0 : AV), plain := true }
def ty149 : TI := { k := .arr 65 5, size := 65, bytes := 65, zero := List.replicate 65 (.int .u8 0 : AV), plain := true }
def ty150 : TI := { k := .fn, size := 1, bytes := 8, zero := [.nilFn], plain := false }
def ty151 : TI := { k := .ptr 5, size := 1, bytes := 8, zero := [.ptr none], plain := false }
def ty152 : TI := { k := .ptr 154, size := 1, bytes := 8, zero := [.ptr none], plain := false }
def ty153 : TI := { k := .st [(9, 0)], size := 1, bytes := 16, zero := [.str []], plain := true }
def ty154 : TI := { k := .st [(9, 0)], size := 1, bytes := 16, zero := [.str []], plain := true }
def ty155 : TI := { k := .ptr 140, size := 1, bytes := 8, zero := [.ptr none], plain := false }
def ty156 : TI := { k := .tup, size := 1, bytes := 0, zero := [], plain := false }
def ty157 : TI := { k := .fn, size := 1, bytes := 8, zero := [.nilFn], plain := false }
def ty158 : TI := { k := .fn, size := 1, bytes := 8, zero := [.nilFn], plain := false }
def ty159 : TI := { k := .arr 32 5, size := 32, bytes := 32, zero := List.replicate 32 (.int .u8 0 : AV), plain := true }
def ty160 : TI := { k := .arr 64 5, size := 64, bytes := 64, zero := List.replicate 64 (.int .u8 0 : AV), plain := true }
def ty161 : TI := { k := .fn, size := 1, bytes := 8, zero := [.nilFn], plain := false }
def ty162 : TI := { k := .st [(17, 0), (17, 1), (17, 2), (9, 3)], size := 4, bytes := 40, zero := [.ptr none, .ptr none, .ptr none, .str []], plain := false }
def ty163 : TI := { k := .st [(17, 0), (17, 1), (17, 2), (9, 3)], size := 4, bytes := 40, zero := [.ptr none, .ptr none, .ptr none, .str []], plain := false }
def ty164 : TI := { k := .arr 0 16, size := 0, bytes := 0, zero := [], plain := false }
def ty165 : TI := { k := .st [(164, 0)], size := 0, bytes := 0, zero := [], plain := false }
def ty166 : TI := { k := .st [(164, 0)], size := 0, bytes := 0, zero := [], plain := false }
def ty167 : TI := { k := .int .u8, size := 1, bytes := 1, zero := [.int .u8 0], plain := false }
def ty168 : TI := { k := .int .u8, size := 1, bytes := 1, zero := [.int .u8 0], plain := false }
def ty169 : TI := { k := .fn, size := 1, bytes := 8, zero := [.nilFn], plain := false }
def ty170 : TI := { k := .int .i32, size := 1, bytes := 4, zero := [.int .i32 0], plain := false }
def ty171 : TI := { k := .int .i32, size := 1, bytes := 4, zero := [.int .i32 0], plain := false }
def ty172 : TI := { k := .st [(12, 0), (12, 1), (44, 2), (167, 3), (5, 4), (5, 5), (168, 6), (169, 7), (151, 8), (170, 9), (171, 10)], size := 11, bytes := 48, zero := [.int .u64 0, .int .u64 0, .int .u32 0, .int .u8 0, .int .u8 0, .int .u8 0, .int .u8 0, .nilFn, .ptr none, .int .i32 0, .int .i32 0], plain := false }
def ty173 : TI := { k := .st [(12, 0), (12, 1), (44, 2), (167, 3), (5, 4), (5, 5), (168, 6), (169, 7), (151, 8), (170, 9), (171, 10)], size := 11, bytes := 48, zero := [.int .u64 0, .int .u64 0, .int .u32 0, .int .u8 0, .int .u8 0, .int .u8 0, .int .u8 0, .nilFn, .ptr none, .int .i32 0, .int .i32 0], plain := false }
def tyT : BT TI := .node 87 ty87 (.node 43 ty43 (.node 21 ty21 (.node 10 ty10 (.node 5 ty5 (.node 2 ty2 (.node 1 ty1 (.node 0 ty0 .nil .nil) .nil) (.node 4 ty4 (.node 3 ty3 .nil .nil) .nil)) (.node 8 ty8 (.node 7 ty7 (.node 6 ty6 .nil .nil) .nil) (.node 9 ty9 .nil .nil))) (.node 16 ty16 (.node 13 ty13 (.node 12 ty12 (.node 11 ty11 .nil .nil) .nil) (.node 15 ty15 (.node 14 ty14 .nil .nil) .nil)) (.node 19 ty19 (.node 18 ty18 (.node 17 ty17 .nil .nil) .nil) (.node 20 ty20 .nil .nil)))) (.node 32 ty32 (.node 27 ty27 (.node 24 ty24 (.node 23 ty23 (.node 22 ty22 .nil .nil) .nil) (.node 26 ty26 (.node 25 ty25 .nil .nil) .nil)) (.node 30 ty30 (.node 29 ty29 (.node 28 ty28 .nil .nil) .nil) (.node 31 ty31 .nil .nil))) (.node 38 ty38 (.node 35 ty35 (.node 34 ty34 (.node 33 ty33 .nil .nil) .nil) (.node 37 ty37 (.node 36 ty36 .nil .nil) .nil)) (.node 41 ty41 (.node 40 ty40 (.node 39 ty39 .nil .nil) .nil) (.node 42 ty42 .nil .nil))))) (.node 65 ty65 (.node 54 ty54 (.node 49 ty49 (.node 46 ty46 (.node 45 ty45 (.node 44 ty44 .nil .nil) .nil) (.node 48 ty48 (.node 47 ty47 .nil .nil) .nil)) (.node 52 ty52 (.node 51 ty51 (.node 50 ty50 .nil .nil) .nil) (.node 53 ty53 .nil .nil))) (.node 60 ty60 (.node 57 ty57 (.node 56 ty56 (.node 55 ty55 .nil .nil) .nil) (.node 59 ty59 (.node 58 ty58 .nil .nil) .nil)) (.node 63 ty63 (.node 62 ty62 (.node 61 ty61 .nil .nil) .nil) (.node 64 ty64 .nil .nil)))) (.node 76 ty76 (.node 71 ty71 (.node 68 ty68 (.node 67 ty67 (.node 66 ty66 .nil .nil) .nil) (.node 70 ty70 (.node 69 ty69 .nil .nil) .nil)) (.node 74 ty74 (.node 73 ty73 (.node 72 ty72 .nil .nil) .nil) (.node 75 ty75 .nil .nil))) (.node 82 ty82 (.node 79 ty79 (.node 78 ty78 (.node 77 ty77 .nil .nil) .nil) (.node 81 ty81 (.node 80 ty80 .nil .nil) .nil)) (.node 85 ty85 (.node 84 ty84 (.node 83 ty83 .nil .nil) .nil) (.node 86 ty86 .nil .nil)))))) (.node 131 ty131 (.node 109 ty109 (.node 98 ty98 (.node 93 ty93 (.node 90 ty90 (.node 89 ty89 (.node 88 ty88 .nil .nil) .nil) (.node 92 ty92 (.node 91 ty91 .nil .nil) .nil)) (.node 96 ty96 (.node 95 ty95 (.node 94 ty94 .nil .nil) .nil) (.node 97 ty97 .nil .nil))) (.node 104 ty104 (.node 101 ty101 (.node 100 ty100 (.node 99 ty99 .nil .nil) .nil) (.node 103 ty103 (.node 102 ty102 .nil .nil) .nil)) (.node 107 ty107 (.node 106 ty106 (.node 105 ty105 .nil .nil) .nil) (.node 108 ty108 .nil .nil)))) (.node 120 ty120 (.node 115 ty115 (.node 112 ty112 (.node 111 ty111 (.node 110 ty110 .nil .nil) .nil) (.node 114 ty114 (.node 113 ty113 .nil .nil) .nil)) (.node 118 ty118 (.node 117 ty117 (.node 116 ty116 .nil .nil) .nil) (.node 119 ty119 .nil .nil))) (.node 126 ty126 (.node 123 ty123 (.node 122 ty122 (.node 121 ty121 .nil .nil) .nil) (.node 125 ty125 (.node 124 ty124 .nil .nil) .nil)) (.node 129 ty129 (.node 128 ty128 (.node 127 ty127 .nil .nil) .nil) (.node 130 ty130 .nil .nil))))) (.node 153 ty153 (.node 142 ty142 (.node 137 ty137 (.node 134 ty134 (.node 133 ty133 (.node 132 ty132 .nil .nil) .nil) (.node 136 ty136 (.node 135 ty135 .nil .nil) .nil)) (.node 140 ty140 (.node 139 ty139 (.node 138 ty138 .nil .nil) .nil) (.node 141 ty141 .nil .nil))) (.node 148 ty148 (.node 145 ty145 (.node 144 ty144 (.node 143 ty143 .nil .nil) .nil) (.node 147 ty147 (.node 146 ty146 .nil .nil) .nil)) (.node 151 ty151 (.node 150 ty150 (.node 149 ty149 .nil .nil) .nil) (.node 152 ty152 .nil .nil)))) (.node 164 ty164 (.node 159 ty159 (.node 156 ty156 (.node 155 ty155 (.node 154 ty154 .nil .nil) .nil) (.node 158 ty158 (.node 157 ty157 .nil .nil) .nil)) (.node 162 ty162 (.node 161 ty161 (.node 160 ty160 .nil .nil) .nil) (.node 163 ty163 .nil .nil))) (.node 169 ty169 (.node 167 ty167 (.node 166 ty166 (.node 165 ty165 .nil .nil) .nil) (.node 168 ty168 .nil .nil)) (.node 172 ty172 (.node 171 ty171 (.node 170 ty170 .nil .nil) .nil) (.node 173 ty173 .nil .nil))))))
noncomputable def fnT : BT Func := .node 53 Go.Proofs.Tryd.f53 (.node 28 Go.Proofs.Tryd.f28 (.node 15 Go.Proofs.Tryd.f15 (.node 9 Go.Proofs.Tryd.f9 (.node 6 Go.Proofs.Tryd.f6 (.node 4 Go.Proofs.Tryd.f4 (.node 3 Go.Proofs.Tryd.f3 .nil .nil) (.node 5 Go.Proofs.Tryd.f5 .nil .nil)) (.node 8 Go.Proofs.Tryd.f8 (.node 7 Go.Proofs.Tryd.f7 .nil .nil) .nil)) (.node 12 Go.Proofs.Tryd.f12 (.node 11 Go.Proofs.Tryd.f11 (.node 10 Go.Proofs.Tryd.f10 .nil .nil) .nil) (.node 14 Go.Proofs.Tryd.f14 (.node 13 Go.Proofs.Tryd.f13 .nil .nil) .nil))) (.node 22 Go.Proofs.Tryd.f22 (.node 19 Go.Proofs.Tryd.f19 (.node 17 Go.Proofs.Tryd.f17 (.node 16 Go.Proofs.Tryd.f16 .nil .nil) (.node 18 Go.Proofs.Tryd.f18 .nil .nil)) (.node 21 Go.Proofs.Tryd.f21 (.node 20 Go.Proofs.Tryd.f20 .nil .nil) .nil)) (.node 25 Go.Proofs.Tryd.f25 (.node 24 Go.Proofs.Tryd.f24 (.node 23 Go.Proofs.Tryd.f23 .nil .nil) .nil) (.node 27 Go.Proofs.Tryd.f27 (.node 26 Go.Proofs.Tryd.f26 .nil .nil) .nil)))) (.node 41 Go.Proofs.Tryd.f41 (.node 35 Go.Proofs.Tryd.f35 (.node 32 Go.Proofs.Tryd.f32 (.node 30 Go.Proofs.Tryd.f30 (.node 29 Go.Proofs.Tryd.f29 .nil .nil) (.node 31 Go.Proofs.Tryd.f31 .nil .nil)) (.node 34 Go.Proofs.Tryd.f34 (.node 33 Go.Proofs.Tryd.f33 .nil .nil) .nil)) (.node 38 Go.Proofs.Tryd.f38 (.node 37 Go.Proofs.Tryd.f37 (.node 36 Go.Proofs.Tryd.f36 .nil .nil) .nil) (.node 40 Go.Proofs.Tryd.f40 (.node 39 Go.Proofs.Tryd.f39 .nil .nil) .nil))) (.node 47 Go.Proofs.Tryd.f47 (.node 44 Go.Proofs.Tryd.f44 (.node 43 Go.Proofs.Tryd.f43 (.node 42 Go.Proofs.Tryd.f42 .nil .nil) .nil) (.node 46 Go.Proofs.Tryd.f46 (.node 45 Go.Proofs.Tryd.f45 .nil .nil) .nil)) (.node 50 Go.Proofs.Tryd.f50 (.node 49 Go.Proofs.Tryd.f49 (.node 48 Go.Proofs.Tryd.f48 .nil .nil) .nil) (.node 52 Go.Proofs.Tryd.f52 (.node 51 Go.Proofs.Tryd.f51 .nil .nil) .nil))))) (.node 79 Go.Proofs.Tryd.f79 (.node 66 Go.Proofs.Tryd.f66 (.node 60 Go.Proofs.Tryd.f60 (.node 57 Go.Proofs.Tryd.f57 (.node 55 Go.Proofs.Tryd.f55 (.node 54 Go.Proofs.Tryd.f54 .nil .nil) (.node 56 Go.Proofs.Tryd.f56 .nil .nil)) (.node 59 Go.Proofs.Tryd.f59 (.node 58 Go.Proofs.Tryd.f58 .nil .nil) .nil)) (.node 63 Go.Proofs.Tryd.f63 (.node 62 Go.Proofs.Tryd.f62 (.node 61 Go.Proofs.Tryd.f61 .nil .nil) .nil) (.node 65 Go.Proofs.Tryd.f65 (.node 64 Go.Proofs.Tryd.f64 .nil .nil) .nil))) (.node 73 Go.Proofs.Tryd.f73 (.node 70 Go.Proofs.Tryd.f70 (.node 68 Go.Proofs.Tryd.f68 (.node 67 Go.Proofs.Tryd.f67 .nil .nil) (.node 69 Go.Proofs.Tryd.f69 .nil .nil)) (.node 72 Go.Proofs.Tryd.f72 (.node 71 Go.Proofs.Tryd.f71 .nil .nil) .nil)) (.node 76 Go.Proofs.Tryd.f76 (.node 75 Go.Proofs.Tryd.f75 (.node 74 Go.Proofs.Tryd.f74 .nil .nil) .nil) (.node 78 Go.Proofs.Tryd.f78 (.node 77 Go.Proofs.Tryd.f77 .nil .nil) .nil)))) (.node 92 Go.Proofs.Tryd.f92 (.node 86 Go.Proofs.Tryd.f86 (.node 83 Go.Proofs.Tryd.f83 (.node 81 Go.Proofs.Tryd.f81 (.node 80 Go.Proofs.Tryd.f80 .nil .nil) (.node 82 Go.Proofs.Tryd.f82 .nil .nil)) (.node 85 Go.Proofs.Tryd.f85 (.node 84 Go.Proofs.Tryd.f84 .nil .nil) .nil)) (.node 89 Go.Proofs.Tryd.f89 (.node 88 Go.Proofs.Tryd.f88 (.node 87 Go.Proofs.Tryd.f87 .nil .nil) .nil) (.node 91 Go.Proofs.Tryd.f91 (.node 90 Go.Proofs.Tryd.f90 .nil .nil) .nil))) (.node 98 Go.Proofs.Tryd.f98 (.node 95 Go.Proofs.Tryd.f95 (.node 94 Go.Proofs.Tryd.f94 (.node 93 Go.Proofs.Tryd.f93 .nil .nil) .nil) (.node 97 Go.Proofs.Tryd.f97 (.node 96 Go.Proofs.Tryd.f96 .nil .nil) .nil)) (.node 101 Go.Proofs.Tryd.f101 (.node 100 Go.Proofs.Tryd.f100 (.node 99 Go.Proofs.Tryd.f99 .nil .nil) .nil) (.node 131 Go.Proofs.Tryd.f131 (.node 102 Go.Proofs.Tryd.f102 .nil .nil) .nil)))))
def lcT : BT (List (Nat × List Nat)) := .node 42 [(0, [0, 4, 5])] (.node 17 [(0, [1, 2, 3])] (.node 9 [(0, [0, 2, 3])] (.node 5 [(0, [0, 1, 4, 5, 6])] (.node 4 [(0, [3, 4, 6, 7, 8]), (2, [2, 3, 4, 9, 10, 11])] (.node 3 [(0, [1, 2, 4, 5, 6, 7])] .nil .nil) .nil) (.node 6 [(0, [0, 3, 4, 5, 6, 7, 8]), (2, [0, 3, 4, 5, 6, 7, 8, 13, 14])] .nil .nil)) (.node 14 [(0, [1, 2, 5, 6, 7]), (2, [1, 2, 5, 6, 7, 8, 9])] (.node 13 [(0, [0, 1, 4, 5])] (.node 11 [(0, [1, 2, 5, 6, 21, 22]), (2, [1, 5, 42, 43, 44])] .nil .nil) .nil) (.node 16 [(0, [2, 15, 16, 17])] .nil .nil))) (.node 31 [(0, [3, 30, 31, 32])] (.node 26 [(0, [0, 3, 7, 24, 25, 26]), (2, [0, 10, 11, 38, 39, 40])] (.node 23 [(0, [0, 3, 4])] (.node 20 [(0, [0, 3, 4])] .nil .nil) .nil) (.node 30 [(0, [2, 10, 11, 12])] .nil .nil)) (.node 40 [(0, [0, 3, 7, 8]), (2, [0, 9, 10, 11, 12])] (.node 39 [(0, [0, 1, 4, 5])] (.node 35 [(0, [1, 3, 8, 9])] .nil .nil) .nil) (.node 41 [(0, [0, 1, 4, 5])] .nil .nil)))) (.node 70 [(0, [0, 1, 2, 6]), (2, [0, 1, 2, 6, 7])] (.node 54 [(0, [0, 2, 3, 4, 5, 40, 41, 42])] (.node 51 [(0, [0, 1, 4, 7, 8])] (.node 50 [(0, [0, 1, 3])] (.node 47 [(0, [0, 2, 3]), (2, [0, 3, 4, 5])] .nil .nil) .nil) (.node 53 [(0, [3, 6, 7, 8])] .nil .nil)) (.node 60 [(0, [0, 1, 4])] (.node 58 [(0, [0, 1, 2, 3, 8, 9])] (.node 56 [(3, [1, 6, 7, 8, 9, 10, 11, 12, 13, 99, 100, 101])] .nil .nil) .nil) (.node 65 [(0, [0, 2, 3, 4, 5])] .nil .nil))) (.node 77 [(0, [0, 1, 9, 10]), (2, [0, 1, 9, 10]), (4, [0, 1, 9, 10])] (.node 74 [(0, [0, 6, 7])] (.node 72 [(0, [0, 1, 6, 7, 8, 9])] (.node 71 [(0, [0, 6, 7, 8, 9]), (2, [0, 6, 7, 10])] .nil .nil) .nil) (.node 75 [(0, [0, 1, 2, 6, 7, 8]), (2, [0, 1, 2, 7, 8]), (4, [0, 1, 2, 7, 8, 9]), (6, [0, 1, 2, 7, 8, 10])] .nil .nil)) (.node 84 [(0, [0, 1, 3, 4, 10, 11, 12, 13, 14, 15, 16]), (2, [0, 1, 3, 4, 10, 11, 12, 13, 17])] (.node 83 [(0, [0, 1, 4])] (.node 78 [(0, [0, 1, 10, 11]), (2, [0, 1, 10, 11]), (4, [0, 1, 10, 11]), (6, [0, 1, 10, 11]), (8, [0, 1, 10, 11])] .nil .nil) .nil) (.node 88 [(0, [0, 2, 3, 8])] .nil .nil))))
def cutT : BT (List (Nat × List Nat)) := .node 54 [(13, [0, 3, 4, 5])] (.node 30 [(8, [2])] (.node 20 [(6, [3])] (.node 11 [(8, [1, 2, 5, 6]), (14, [1, 5, 9, 10, 42, 43, 44]), (22, [1, 5, 42, 43, 44])] .nil .nil) (.node 23 [(6, [0, 3])] .nil .nil)) (.node 42 [(6, [0, 4]), (10, [0, 4])] (.node 40 [(9, [0, 3, 7]), (14, [0, 9, 10, 11, 12]), (18, [0, 10, 11])] .nil .nil) .nil)) (.node 75 [(4, [0, 1, 2, 7, 8]), (7, [0, 1, 2, 7, 8]), (18, [0, 1, 2, 7, 8])] (.node 73 [(11, [0, 9, 10, 11, 12]), (12, [9, 11])] (.node 71 [(7, [0, 6, 7, 8])] .nil .nil) .nil) (.node 78 [(7, [0, 1, 10, 11]), (17, [0, 1, 10, 11]), (21, [0, 1, 11])] (.node 77 [(7, [0, 1, 9, 10])] .nil .nil) .nil))
def methT : List (TypeId × String × FuncId) := []
def lc (f cur : Nat) : List Nat := match lcT.find f with
  | some l => (l.lookup cur).getD []
  | none => []
def cutF (f r : Nat) : Option (List Nat) := match cutT.find f with
  | some l => l.lookup r
  | none => none
noncomputable def E : Env := { ty := tyT.find, func := fnT.find, cut := cutF, lcut := lc, meth := methF methT }
end Go.Ct
