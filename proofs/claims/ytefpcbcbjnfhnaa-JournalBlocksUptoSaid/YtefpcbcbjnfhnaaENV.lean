/- The tables of the abstract evaluator for this program: by program. -/
import Derived.Test.YtefpcbcbjnfhnaaGrCore
import Derived.Test.YtefpcbcbjnfhnaaProg
set_option maxRecDepth 100000
namespace Go.Jn
open Go.Gr
def ty0 : TI := { k := .tup, size := 1, bytes := 0, zero := [], plain := false }
def ty1 : TI := { k := .fn, size := 1, bytes := 8, zero := [.nilFn], plain := false }
def ty2 : TI := { k := .int .i64, size := 1, bytes := 8, zero := [.int .i64 0], plain := false }
def ty3 : TI := { k := .int .i64, size := 1, bytes := 8, zero := [.int .i64 0], plain := false }
def ty4 : TI := { k := .bool, size := 1, bytes := 1, zero := [.bool false], plain := false }
def ty5 : TI := { k := .int .u8, size := 1, bytes := 1, zero := [.int .u8 0], plain := false }
def ty6 : TI := { k := .int .u8, size := 1, bytes := 1, zero := [.int .u8 0], plain := false }
def ty7 : TI := { k := .st [(2, 0), (3, 1), (4, 2), (6, 3)], size := 4, bytes := 24, zero := [.int .i64 0, .int .i64 0, .bool false, .int .u8 0], plain := true }
def ty8 : TI := { k := .st [(2, 0), (3, 1), (4, 2), (6, 3)], size := 4, bytes := 24, zero := [.int .i64 0, .int .i64 0, .bool false, .int .u8 0], plain := true }
def ty9 : TI := { k := .str, size := 1, bytes := 16, zero := [.str []], plain := false }
def ty10 : TI := { k := .str, size := 1, bytes := 16, zero := [.str []], plain := false }
def ty11 : TI := { k := .str, size := 1, bytes := 16, zero := [.str []], plain := false }
def ty12 : TI := { k := .int .u64, size := 1, bytes := 8, zero := [.int .u64 0], plain := false }
def ty13 : TI := { k := .st [(9, 0), (12, 1)], size := 2, bytes := 24, zero := [.str [], .int .u64 0], plain := false }
def ty14 : TI := { k := .st [(9, 0), (12, 1)], size := 2, bytes := 24, zero := [.str [], .int .u64 0], plain := false }
def ty15 : TI := { k := .ptr 112, size := 1, bytes := 8, zero := [.ptr none], plain := false }
def ty16 : TI := { k := .ptr 115, size := 1, bytes := 8, zero := [.ptr none], plain := false }
def ty17 : TI := { k := .ptr 124, size := 1, bytes := 8, zero := [.ptr none], plain := false }
def ty18 : TI := { k := .st [(17, 0)], size := 1, bytes := 8, zero := [.ptr none], plain := false }
def ty19 : TI := { k := .st [(17, 0)], size := 1, bytes := 8, zero := [.ptr none], plain := false }
def ty20 : TI := { k := .iface, size := 1, bytes := 16, zero := [.nilIface], plain := false }
def ty21 : TI := { k := .int .i32, size := 1, bytes := 4, zero := [.int .i32 0], plain := false }
def ty22 : TI := { k := .int .u64, size := 1, bytes := 8, zero := [.int .u64 0], plain := false }
def ty23 : TI := { k := .sl 5, size := 1, bytes := 24, zero := [.sl none 0 (.ex 0)], plain := false }
def ty24 : TI := { k := .st [(22, 0), (22, 1), (22, 2), (22, 3), (3, 4), (3, 5), (23, 6)], size := 7, bytes := 72, zero := [.int .u64 0, .int .u64 0, .int .u64 0, .int .u64 0, .int .i64 0, .int .i64 0, .sl none 0 (.ex 0)], plain := false }
def ty25 : TI := { k := .st [(22, 0), (22, 1), (22, 2), (22, 3), (3, 4), (3, 5), (23, 6)], size := 7, bytes := 72, zero := [.int .u64 0, .int .u64 0, .int .u64 0, .int .u64 0, .int .i64 0, .int .i64 0, .sl none 0 (.ex 0)], plain := false }
def ty26 : TI := { k := .st [(22, 0), (22, 1), (22, 2), (22, 3), (22, 4), (22, 5)], size := 6, bytes := 48, zero := [.int .u64 0, .int .u64 0, .int .u64 0, .int .u64 0, .int .u64 0, .int .u64 0], plain := true }
def ty27 : TI := { k := .st [(22, 0), (22, 1), (22, 2), (22, 3), (22, 4), (22, 5)], size := 6, bytes := 48, zero := [.int .u64 0, .int .u64 0, .int .u64 0, .int .u64 0, .int .u64 0, .int .u64 0], plain := true }
def ty28 : TI := { k := .sl 64, size := 1, bytes := 24, zero := [.sl none 0 (.ex 0)], plain := false }
def ty29 : TI := { k := .st [(25, 0), (27, 7), (28, 13), (23, 14), (3, 15)], size := 16, bytes := 176, zero := [.int .u64 0, .int .u64 0, .int .u64 0, .int .u64 0, .int .i64 0, .int .i64 0, .sl none 0 (.ex 0), .int .u64 0, .int .u64 0, .int .u64 0, .int .u64 0, .int .u64 0, .int .u64 0, .sl none 0 (.ex 0), .sl none 0 (.ex 0), .int .i64 0], plain := false }
def ty30 : TI := { k := .st [(25, 0), (27, 7), (28, 13), (23, 14), (3, 15)], size := 16, bytes := 176, zero := [.int .u64 0, .int .u64 0, .int .u64 0, .int .u64 0, .int .i64 0, .int .i64 0, .sl none 0 (.ex 0), .int .u64 0, .int .u64 0, .int .u64 0, .int .u64 0, .int .u64 0, .int .u64 0, .sl none 0 (.ex 0), .sl none 0 (.ex 0), .int .i64 0], plain := false }
def ty31 : TI := { k := .fn, size := 1, bytes := 8, zero := [.nilFn], plain := false }
def ty32 : TI := { k := .fn, size := 1, bytes := 8, zero := [.nilFn], plain := false }
def ty33 : TI := { k := .int .i64, size := 1, bytes := 8, zero := [.int .i64 0], plain := false }
def ty34 : TI := { k := .tup, size := 1, bytes := 0, zero := [], plain := false }
def ty35 : TI := { k := .fn, size := 1, bytes := 8, zero := [.nilFn], plain := false }
def ty36 : TI := { k := .tup, size := 1, bytes := 0, zero := [], plain := false }
def ty37 : TI := { k := .fn, size := 1, bytes := 8, zero := [.nilFn], plain := false }
def ty38 : TI := { k := .fn, size := 1, bytes := 8, zero := [.nilFn], plain := false }
def ty39 : TI := { k := .fn, size := 1, bytes := 8, zero := [.nilFn], plain := false }
def ty40 : TI := { k := .fn, size := 1, bytes := 8, zero := [.nilFn], plain := false }
def ty41 : TI := { k := .fn, size := 1, bytes := 8, zero := [.nilFn], plain := false }
def ty42 : TI := { k := .fn, size := 1, bytes := 8, zero := [.nilFn], plain := false }
def ty43 : TI := { k := .fn, size := 1, bytes := 8, zero := [.nilFn], plain := false }
def ty44 : TI := { k := .fn, size := 1, bytes := 8, zero := [.nilFn], plain := false }
def ty45 : TI := { k := .tup, size := 1, bytes := 0, zero := [], plain := false }
def ty46 : TI := { k := .fn, size := 1, bytes := 8, zero := [.nilFn], plain := false }
def ty47 : TI := { k := .tup, size := 1, bytes := 0, zero := [], plain := false }
def ty48 : TI := { k := .fn, size := 1, bytes := 8, zero := [.nilFn], plain := false }
def ty49 : TI := { k := .tup, size := 1, bytes := 0, zero := [], plain := false }
def ty50 : TI := { k := .fn, size := 1, bytes := 8, zero := [.nilFn], plain := false }
def ty51 : TI := { k := .tup, size := 1, bytes := 0, zero := [], plain := false }
def ty52 : TI := { k := .fn, size := 1, bytes := 8, zero := [.nilFn], plain := false }
def ty53 : TI := { k := .tup, size := 1, bytes := 0, zero := [], plain := false }
def ty54 : TI := { k := .fn, size := 1, bytes := 8, zero := [.nilFn], plain := false }
def ty55 : TI := { k := .tup, size := 1, bytes := 0, zero := [], plain := false }
def ty56 : TI := { k := .fn, size := 1, bytes := 8, zero := [.nilFn], plain := false }
def ty57 : TI := { k := .fn, size := 1, bytes := 8, zero := [.nilFn], plain := false }
def ty58 : TI := { k := .fn, size := 1, bytes := 8, zero := [.nilFn], plain := false }
def ty59 : TI := { k := .ptr 89, size := 1, bytes := 8, zero := [.ptr none], plain := false }
def ty60 : TI := { k := .tup, size := 1, bytes := 0, zero := [], plain := false }
def ty61 : TI := { k := .fn, size := 1, bytes := 8, zero := [.nilFn], plain := false }
def ty62 : TI := { k := .fn, size := 1, bytes := 8, zero := [.nilFn], plain := false }
def ty63 : TI := { k := .st [(3, 0), (23, 1)], size := 2, bytes := 32, zero := [.int .i64 0, .sl none 0 (.ex 0)], plain := false }
def ty64 : TI := { k := .st [(3, 0), (23, 1)], size := 2, bytes := 32, zero := [.int .i64 0, .sl none 0 (.ex 0)], plain := false }
def ty65 : TI := { k := .sl 28, size := 1, bytes := 24, zero := [.sl none 0 (.ex 0)], plain := false }
def ty66 : TI := { k := .tup, size := 1, bytes := 0, zero := [], plain := false }
def ty67 : TI := { k := .fn, size := 1, bytes := 8, zero := [.nilFn], plain := false }
def ty68 : TI := { k := .fn, size := 1, bytes := 8, zero := [.nilFn], plain := false }
def ty69 : TI := { k := .fn, size := 1, bytes := 8, zero := [.nilFn], plain := false }
def ty70 : TI := { k := .fn, size := 1, bytes := 8, zero := [.nilFn], plain := false }
def ty71 : TI := { k := .fn, size := 1, bytes := 8, zero := [.nilFn], plain := false }
def ty72 : TI := { k := .fn, size := 1, bytes := 8, zero := [.nilFn], plain := false }
def ty73 : TI := { k := .ptr 103, size := 1, bytes := 8, zero := [.ptr none], plain := false }
def ty74 : TI := { k := .fn, size := 1, bytes := 8, zero := [.nilFn], plain := false }
def ty75 : TI := { k := .fn, size := 1, bytes := 8, zero := [.nilFn], plain := false }
def ty76 : TI := { k := .sl 3, size := 1, bytes := 24, zero := [.sl none 0 (.ex 0)], plain := false }
def ty77 : TI := { k := .fn, size := 1, bytes := 8, zero := [.nilFn], plain := false }
def ty78 : TI := { k := .sl 22, size := 1, bytes := 24, zero := [.sl none 0 (.ex 0)], plain := false }
def ty79 : TI := { k := .fn, size := 1, bytes := 8, zero := [.nilFn], plain := false }
def ty80 : TI := { k := .fn, size := 1, bytes := 8, zero := [.nilFn], plain := false }
def ty81 : TI := { k := .fn, size := 1, bytes := 8, zero := [.nilFn], plain := false }
def ty82 : TI := { k := .fn, size := 1, bytes := 8, zero := [.nilFn], plain := false }
def ty83 : TI := { k := .fn, size := 1, bytes := 8, zero := [.nilFn], plain := false }
def ty84 : TI := { k := .arr 6 22, size := 6, bytes := 48, zero := [.int .u64 0, .int .u64 0, .int .u64 0, .int .u64 0, .int .u64 0, .int .u64 0], plain := true }
def ty85 : TI := { k := .iface, size := 1, bytes := 16, zero := [.nilIface], plain := false }
def ty86 : TI := { k := .iface, size := 1, bytes := 16, zero := [.nilIface], plain := false }
def ty87 : TI := { k := .sl 95, size := 1, bytes := 24, zero := [.sl none 0 (.ex 0)], plain := false }
def ty88 : TI := { k := .st [(86, 0), (3, 1), (3, 2), (27, 3), (87, 9), (22, 10), (22, 11)], size := 12, bytes := 120, zero := [.nilIface, .int .i64 0, .int .i64 0, .int .u64 0, .int .u64 0, .int .u64 0, .int .u64 0, .int .u64 0, .int .u64 0, .sl none 0 (.ex 0), .int .u64 0, .int .u64 0], plain := false }
def ty89 : TI := { k := .st [(86, 0), (3, 1), (3, 2), (27, 3), (87, 9), (22, 10), (22, 11)], size := 12, bytes := 120, zero := [.nilIface, .int .i64 0, .int .i64 0, .int .u64 0, .int .u64 0, .int .u64 0, .int .u64 0, .int .u64 0, .int .u64 0, .sl none 0 (.ex 0), .int .u64 0, .int .u64 0], plain := false }
def ty90 : TI := { k := .fn, size := 1, bytes := 8, zero := [.nilFn], plain := false }
def ty91 : TI := { k := .fn, size := 1, bytes := 8, zero := [.nilFn], plain := false }
def ty92 : TI := { k := .st [(22, 0), (22, 1)], size := 2, bytes := 16, zero := [.int .u64 0, .int .u64 0], plain := true }
def ty93 : TI := { k := .st [(22, 0), (22, 1)], size := 2, bytes := 16, zero := [.int .u64 0, .int .u64 0], plain := true }
def ty94 : TI := { k := .st [(3, 0), (93, 1)], size := 3, bytes := 24, zero := [.int .i64 0, .int .u64 0, .int .u64 0], plain := true }
def ty95 : TI := { k := .st [(3, 0), (93, 1)], size := 3, bytes := 24, zero := [.int .i64 0, .int .u64 0, .int .u64 0], plain := true }
def ty96 : TI := { k := .tup, size := 1, bytes := 0, zero := [], plain := false }
def ty97 : TI := { k := .fn, size := 1, bytes := 8, zero := [.nilFn], plain := false }
def ty98 : TI := { k := .fn, size := 1, bytes := 8, zero := [.nilFn], plain := false }
def ty99 : TI := { k := .fn, size := 1, bytes := 8, zero := [.nilFn], plain := false }
def ty100 : TI := { k := .sl 9, size := 1, bytes := 24, zero := [.sl none 0 (.ex 0)], plain := false }
def ty101 : TI := { k := .sl 105, size := 1, bytes := 24, zero := [.sl none 0 (.ex 0)], plain := false }
def ty102 : TI := { k := .st [(100, 0), (101, 1), (3, 2)], size := 3, bytes := 56, zero := [.sl none 0 (.ex 0), .sl none 0 (.ex 0), .int .i64 0], plain := false }
def ty103 : TI := { k := .st [(100, 0), (101, 1), (3, 2)], size := 3, bytes := 56, zero := [.sl none 0 (.ex 0), .sl none 0 (.ex 0), .int .i64 0], plain := false }
def ty104 : TI := { k := .st [(3, 0), (9, 1)], size := 2, bytes := 24, zero := [.int .i64 0, .str []], plain := true }
def ty105 : TI := { k := .st [(3, 0), (9, 1)], size := 2, bytes := 24, zero := [.int .i64 0, .str []], plain := true }
def ty106 : TI := { k := .fn, size := 1, bytes := 8, zero := [.nilFn], plain := false }
def ty107 : TI := { k := .int .u64, size := 1, bytes := 8, zero := [.int .u64 0], plain := false }
def ty108 : TI := { k := .fn, size := 1, bytes := 8, zero := [.nilFn], plain := false }
def ty109 : TI := { k := .fn, size := 1, bytes := 8, zero := [.nilFn], plain := false }
def ty110 : TI := { k := .fn, size := 1, bytes := 8, zero := [.nilFn], plain := false }
def ty111 : TI := { k := .st [(17, 0), (17, 1), (17, 2), (9, 3)], size := 4, bytes := 40, zero := [.ptr none, .ptr none, .ptr none, .str []], plain := false }
def ty112 : TI := { k := .st [(17, 0), (17, 1), (17, 2), (9, 3)], size := 4, bytes := 40, zero := [.ptr none, .ptr none, .ptr none, .str []], plain := false }
def ty113 : TI := { k := .arr 0 16, size := 0, bytes := 0, zero := [], plain := false }
def ty114 : TI := { k := .st [(113, 0)], size := 0, bytes := 0, zero := [], plain := false }
def ty115 : TI := { k := .st [(113, 0)], size := 0, bytes := 0, zero := [], plain := false }
def ty116 : TI := { k := .int .u32, size := 1, bytes := 4, zero := [.int .u32 0], plain := false }
def ty117 : TI := { k := .int .u8, size := 1, bytes := 1, zero := [.int .u8 0], plain := false }
def ty118 : TI := { k := .int .u8, size := 1, bytes := 1, zero := [.int .u8 0], plain := false }
def ty119 : TI := { k := .fn, size := 1, bytes := 8, zero := [.nilFn], plain := false }
def ty120 : TI := { k := .ptr 5, size := 1, bytes := 8, zero := [.ptr none], plain := false }
def ty121 : TI := { k := .int .i32, size := 1, bytes := 4, zero := [.int .i32 0], plain := false }
def ty122 : TI := { k := .int .i32, size := 1, bytes := 4, zero := [.int .i32 0], plain := false }
def ty123 : TI := { k := .st [(12, 0), (12, 1), (116, 2), (117, 3), (5, 4), (5, 5), (118, 6), (119, 7), (120, 8), (121, 9), (122, 10)], size := 11, bytes := 48, zero := [.int .u64 0, .int .u64 0, .int .u32 0, .int .u8 0, .int .u8 0, .int .u8 0, .int .u8 0, .nilFn, .ptr none, .int .i32 0, .int .i32 0], plain := false }
def ty124 : TI := { k := .st [(12, 0), (12, 1), (116, 2), (117, 3), (5, 4), (5, 5), (118, 6), (119, 7), (120, 8), (121, 9), (122, 10)], size := 11, bytes := 48, zero := [.int .u64 0, .int .u64 0, .int .u32 0, .int .u8 0, .int .u8 0, .int .u8 0, .int .u8 0, .nilFn, .ptr none, .int .i32 0, .int .i32 0], plain := false }
def tyT : BT TI := .node 62 ty62 (.node 31 ty31 (.node 15 ty15 (.node 7 ty7 (.node 3 ty3 (.node 1 ty1 (.node 0 ty0 .nil .nil) (.node 2 ty2 .nil .nil)) (.node 5 ty5 (.node 4 ty4 .nil .nil) (.node 6 ty6 .nil .nil))) (.node 11 ty11 (.node 9 ty9 (.node 8 ty8 .nil .nil) (.node 10 ty10 .nil .nil)) (.node 13 ty13 (.node 12 ty12 .nil .nil) (.node 14 ty14 .nil .nil)))) (.node 23 ty23 (.node 19 ty19 (.node 17 ty17 (.node 16 ty16 .nil .nil) (.node 18 ty18 .nil .nil)) (.node 21 ty21 (.node 20 ty20 .nil .nil) (.node 22 ty22 .nil .nil))) (.node 27 ty27 (.node 25 ty25 (.node 24 ty24 .nil .nil) (.node 26 ty26 .nil .nil)) (.node 29 ty29 (.node 28 ty28 .nil .nil) (.node 30 ty30 .nil .nil))))) (.node 47 ty47 (.node 39 ty39 (.node 35 ty35 (.node 33 ty33 (.node 32 ty32 .nil .nil) (.node 34 ty34 .nil .nil)) (.node 37 ty37 (.node 36 ty36 .nil .nil) (.node 38 ty38 .nil .nil))) (.node 43 ty43 (.node 41 ty41 (.node 40 ty40 .nil .nil) (.node 42 ty42 .nil .nil)) (.node 45 ty45 (.node 44 ty44 .nil .nil) (.node 46 ty46 .nil .nil)))) (.node 55 ty55 (.node 51 ty51 (.node 49 ty49 (.node 48 ty48 .nil .nil) (.node 50 ty50 .nil .nil)) (.node 53 ty53 (.node 52 ty52 .nil .nil) (.node 54 ty54 .nil .nil))) (.node 59 ty59 (.node 57 ty57 (.node 56 ty56 .nil .nil) (.node 58 ty58 .nil .nil)) (.node 61 ty61 (.node 60 ty60 .nil .nil) .nil))))) (.node 94 ty94 (.node 78 ty78 (.node 70 ty70 (.node 66 ty66 (.node 64 ty64 (.node 63 ty63 .nil .nil) (.node 65 ty65 .nil .nil)) (.node 68 ty68 (.node 67 ty67 .nil .nil) (.node 69 ty69 .nil .nil))) (.node 74 ty74 (.node 72 ty72 (.node 71 ty71 .nil .nil) (.node 73 ty73 .nil .nil)) (.node 76 ty76 (.node 75 ty75 .nil .nil) (.node 77 ty77 .nil .nil)))) (.node 86 ty86 (.node 82 ty82 (.node 80 ty80 (.node 79 ty79 .nil .nil) (.node 81 ty81 .nil .nil)) (.node 84 ty84 (.node 83 ty83 .nil .nil) (.node 85 ty85 .nil .nil))) (.node 90 ty90 (.node 88 ty88 (.node 87 ty87 .nil .nil) (.node 89 ty89 .nil .nil)) (.node 92 ty92 (.node 91 ty91 .nil .nil) (.node 93 ty93 .nil .nil))))) (.node 110 ty110 (.node 102 ty102 (.node 98 ty98 (.node 96 ty96 (.node 95 ty95 .nil .nil) (.node 97 ty97 .nil .nil)) (.node 100 ty100 (.node 99 ty99 .nil .nil) (.node 101 ty101 .nil .nil))) (.node 106 ty106 (.node 104 ty104 (.node 103 ty103 .nil .nil) (.node 105 ty105 .nil .nil)) (.node 108 ty108 (.node 107 ty107 .nil .nil) (.node 109 ty109 .nil .nil)))) (.node 118 ty118 (.node 114 ty114 (.node 112 ty112 (.node 111 ty111 .nil .nil) (.node 113 ty113 .nil .nil)) (.node 116 ty116 (.node 115 ty115 .nil .nil) (.node 117 ty117 .nil .nil))) (.node 122 ty122 (.node 120 ty120 (.node 119 ty119 .nil .nil) (.node 121 ty121 .nil .nil)) (.node 124 ty124 (.node 123 ty123 .nil .nil) .nil)))))
noncomputable def fnT : BT Func := .node 32 Go.Proofs.Try.f32 (.node 17 Go.Proofs.Try.f17 (.node 10 Go.Proofs.Try.f10 (.node 6 Go.Proofs.Try.f6 (.node 4 Go.Proofs.Try.f4 (.node 3 Go.Proofs.Try.f3 .nil .nil) (.node 5 Go.Proofs.Try.f5 .nil .nil)) (.node 8 Go.Proofs.Try.f8 (.node 7 Go.Proofs.Try.f7 .nil .nil) (.node 9 Go.Proofs.Try.f9 .nil .nil))) (.node 14 Go.Proofs.Try.f14 (.node 12 Go.Proofs.Try.f12 (.node 11 Go.Proofs.Try.f11 .nil .nil) (.node 13 Go.Proofs.Try.f13 .nil .nil)) (.node 16 Go.Proofs.Try.f16 (.node 15 Go.Proofs.Try.f15 .nil .nil) .nil))) (.node 25 Go.Proofs.Try.f25 (.node 21 Go.Proofs.Try.f21 (.node 19 Go.Proofs.Try.f19 (.node 18 Go.Proofs.Try.f18 .nil .nil) (.node 20 Go.Proofs.Try.f20 .nil .nil)) (.node 23 Go.Proofs.Try.f23 (.node 22 Go.Proofs.Try.f22 .nil .nil) (.node 24 Go.Proofs.Try.f24 .nil .nil))) (.node 29 Go.Proofs.Try.f29 (.node 27 Go.Proofs.Try.f27 (.node 26 Go.Proofs.Try.f26 .nil .nil) (.node 28 Go.Proofs.Try.f28 .nil .nil)) (.node 31 Go.Proofs.Try.f31 (.node 30 Go.Proofs.Try.f30 .nil .nil) .nil)))) (.node 47 Go.Proofs.Try.f47 (.node 40 Go.Proofs.Try.f40 (.node 36 Go.Proofs.Try.f36 (.node 34 Go.Proofs.Try.f34 (.node 33 Go.Proofs.Try.f33 .nil .nil) (.node 35 Go.Proofs.Try.f35 .nil .nil)) (.node 38 Go.Proofs.Try.f38 (.node 37 Go.Proofs.Try.f37 .nil .nil) (.node 39 Go.Proofs.Try.f39 .nil .nil))) (.node 44 Go.Proofs.Try.f44 (.node 42 Go.Proofs.Try.f42 (.node 41 Go.Proofs.Try.f41 .nil .nil) (.node 43 Go.Proofs.Try.f43 .nil .nil)) (.node 46 Go.Proofs.Try.f46 (.node 45 Go.Proofs.Try.f45 .nil .nil) .nil))) (.node 54 Go.Proofs.Try.f54 (.node 51 Go.Proofs.Try.f51 (.node 49 Go.Proofs.Try.f49 (.node 48 Go.Proofs.Try.f48 .nil .nil) (.node 50 Go.Proofs.Try.f50 .nil .nil)) (.node 53 Go.Proofs.Try.f53 (.node 52 Go.Proofs.Try.f52 .nil .nil) .nil)) (.node 75 Go.Proofs.Try.f75 (.node 56 Go.Proofs.Try.f56 (.node 55 Go.Proofs.Try.f55 .nil .nil) (.node 74 Go.Proofs.Try.f74 .nil .nil)) (.node 77 Go.Proofs.Try.f77 (.node 76 Go.Proofs.Try.f76 .nil .nil) .nil))))
def lcT : BT (List (Nat × List Nat)) := .node 34 [(0, [3, 16, 17, 18])] (.node 22 [(0, [5, 6])] (.node 12 [(0, [2, 3, 4, 19, 20, 21])] (.node 8 [(0, [1, 4, 79, 80, 81]), (2, [1, 4, 96, 97, 98])] (.node 6 [(0, [1, 3, 4])] .nil .nil) (.node 10 [(0, [5, 36, 37, 38])] .nil .nil)) (.node 14 [(0, [0, 2, 3, 4, 5])] (.node 13 [(0, [0, 3, 4])] .nil .nil) (.node 20 [(0, [0, 2, 4, 13])] .nil .nil))) (.node 27 [(0, [0, 3, 4])] (.node 25 [(0, [0, 1, 4, 5])] (.node 23 [(0, [0, 2, 3, 4, 5])] .nil .nil) (.node 26 [(0, [0, 4, 5, 6, 8, 9, 10, 60, 61])] .nil .nil)) (.node 30 [(1, [0, 5, 6, 56, 57, 58])] (.node 28 [(0, [6, 7, 8, 10, 12, 13, 14])] .nil .nil) .nil))) (.node 47 [(0, [0, 1, 2, 7, 8])] (.node 39 [(0, [2, 5, 6, 7])] (.node 37 [(0, [0, 3, 4, 5])] (.node 36 [(0, [0, 1, 2, 6, 8]), (2, [0, 1, 6, 46])] .nil .nil) (.node 38 [(0, [0, 1, 4]), (2, [0, 1, 4, 5, 6])] .nil .nil)) (.node 44 [(0, [3, 6, 7, 8])] (.node 42 [(0, [0, 1, 7])] .nil .nil) (.node 46 [(0, [0, 1, 4, 12, 13])] .nil .nil))) (.node 55 [(0, [0, 1, 4])] (.node 51 [(0, [0, 2, 3, 8])] (.node 48 [(0, [3, 14, 15, 16])] .nil .nil) (.node 52 [(0, [0, 1, 2, 4, 8, 10, 11, 12, 13, 14, 15, 16])] .nil .nil)) (.node 76 [(0, [0, 1, 4, 5, 6])] (.node 74 [(0, [0, 3])] .nil .nil) .nil)))
def cutT : BT (List (Nat × List Nat)) := .node 23 [(11, [4])] (.node 10 [(10, [5])] (.node 6 [(6, [1, 3])] (.node 4 [(8, [1]), (13, [1]), (18, [1])] (.node 3 [(1, [1]), (3, [1]), (4, [1, 3]), (5, [1, 3]), (6, [1, 4, 5]), (7, [1, 4, 5, 6, 7]), (8, [1, 4, 5, 6, 7, 8, 9]), (9, [1, 4, 5, 6, 7, 8, 9, 10, 11]), (10, [1, 4, 5, 6, 7, 8, 9, 10, 11, 12, 13]), (11, [1, 4, 5, 6, 7, 8, 9, 10, 11, 12, 13, 14, 15]), (13, [1]), (14, [1, 16]), (15, [1, 5, 16, 17]), (16, [1, 5, 7, 16, 17, 18]), (17, [1, 5, 7, 9, 16, 17, 18, 19]), (18, [1, 5, 7, 9, 11, 16, 17, 18, 19, 20]), (19, [1, 5, 7, 9, 11, 13, 16, 17, 18, 19, 20, 21]), (20, [1, 5, 7, 9, 11, 13, 15, 16, 17, 18, 19, 20, 21, 22])] .nil .nil) .nil) (.node 8 [(9, [1, 4]), (14, [1, 4])] .nil .nil)) (.node 20 [(9, [0, 2, 4])] (.node 14 [(10, [4])] (.node 12 [(11, [4])] .nil .nil) .nil) (.node 22 [(11, [5])] .nil .nil))) (.node 38 [(2, [0, 1, 4]), (8, [0, 1, 4, 5]), (10, [0])] (.node 30 [(16, [0, 5, 6])] (.node 28 [(18, [10, 12])] (.node 26 [(20, [0, 8, 10])] .nil .nil) .nil) (.node 36 [(10, [0, 1]), (21, [0])] .nil .nil)) (.node 76 [(8, [0, 1])] (.node 74 [(5, [0])] (.node 51 [(11, [0, 3, 8]), (12, [3])] .nil .nil) .nil) (.node 77 [(8, [0, 1, 2])] .nil .nil)))
def methT : List (TypeId × String × FuncId) := [(73, "Flush", 74), (73, "Len", 75), (73, "Read", 76), (73, "Write", 77)]
def lc (f cur : Nat) : List Nat := match lcT.find f with
  | some l => (l.lookup cur).getD []
  | none => []
def cutF (f r : Nat) : Option (List Nat) := match cutT.find f with
  | some l => l.lookup r
  | none => none
noncomputable def E : Env := { ty := tyT.find, func := fnT.find, cut := cutF, lcut := lc, meth := methF methT }
end Go.Jn
