/- The tables of the abstract evaluator for this program: by program. -/
import Derived.Test.YtjninokocidaaaaGrCore
import Derived.Test.YtjninokocidaaaaProg
set_option maxRecDepth 100000
namespace Go.Al
open Go.Gr
def ty0 : TI := { k := .tup, size := 1, bytes := 0, zero := [], plain := false }
def ty1 : TI := { k := .fn, size := 1, bytes := 8, zero := [.nilFn], plain := false }
def ty2 : TI := { k := .int .i64, size := 1, bytes := 8, zero := [.int .i64 0], plain := false }
def ty3 : TI := { k := .int .i64, size := 1, bytes := 8, zero := [.int .i64 0], plain := false }
def ty4 : TI := { k := .bool, size := 1, bytes := 1, zero := [.bool false], plain := false }
def ty5 : TI := { k := .int .u8, size := 1, bytes := 1, zero := [.int .u8 0], plain := false }
def ty6 : TI := { k := .int .u8, size := 1, bytes := 1, zero := [.int .u8 0], plain := false }
def ty7 : TI := { k := .st [(2, 0), (3, 1), (4, 2), (6, 3)], size := 4, bytes := 24, zero := [.int .i64 0, .int .i64 0, .bool false, .int .u8 0], plain := true }
def ty8 : TI := { k := .st [(2, 0), (3, 1), (4, 2), (6, 3)], size := 4, bytes := 24, zero := [.int .i64 0, .int .i64 0, .bool false, .int .u8 0], plain := true }
def ty9 : TI := { k := .str, size := 1, bytes := 16, zero := [.str []], plain := false }
def ty10 : TI := { k := .str, size := 1, bytes := 16, zero := [.str []], plain := false }
def ty11 : TI := { k := .str, size := 1, bytes := 16, zero := [.str []], plain := false }
def ty12 : TI := { k := .int .u64, size := 1, bytes := 8, zero := [.int .u64 0], plain := false }
def ty13 : TI := { k := .st [(9, 0), (12, 1)], size := 2, bytes := 24, zero := [.str [], .int .u64 0], plain := false }
def ty14 : TI := { k := .st [(9, 0), (12, 1)], size := 2, bytes := 24, zero := [.str [], .int .u64 0], plain := false }
def ty15 : TI := { k := .ptr 106, size := 1, bytes := 8, zero := [.ptr none], plain := false }
def ty16 : TI := { k := .ptr 109, size := 1, bytes := 8, zero := [.ptr none], plain := false }
def ty17 : TI := { k := .ptr 117, size := 1, bytes := 8, zero := [.ptr none], plain := false }
def ty18 : TI := { k := .st [(17, 0)], size := 1, bytes := 8, zero := [.ptr none], plain := false }
def ty19 : TI := { k := .st [(17, 0)], size := 1, bytes := 8, zero := [.ptr none], plain := false }
def ty20 : TI := { k := .iface, size := 1, bytes := 16, zero := [.nilIface], plain := false }
def ty21 : TI := { k := .int .i32, size := 1, bytes := 4, zero := [.int .i32 0], plain := false }
def ty22 : TI := { k := .ptr 64, size := 1, bytes := 8, zero := [.ptr none], plain := false }
def ty23 : TI := { k := .int .i64, size := 1, bytes := 8, zero := [.int .i64 0], plain := false }
def ty24 : TI := { k := .tup, size := 1, bytes := 0, zero := [], plain := false }
def ty25 : TI := { k := .fn, size := 1, bytes := 8, zero := [.nilFn], plain := false }
def ty26 : TI := { k := .fn, size := 1, bytes := 8, zero := [.nilFn], plain := false }
def ty27 : TI := { k := .fn, size := 1, bytes := 8, zero := [.nilFn], plain := false }
def ty28 : TI := { k := .tup, size := 1, bytes := 0, zero := [], plain := false }
def ty29 : TI := { k := .fn, size := 1, bytes := 8, zero := [.nilFn], plain := false }
def ty30 : TI := { k := .fn, size := 1, bytes := 8, zero := [.nilFn], plain := false }
def ty31 : TI := { k := .sl 5, size := 1, bytes := 24, zero := [.sl none 0 (.ex 0)], plain := false }
def ty32 : TI := { k := .fn, size := 1, bytes := 8, zero := [.nilFn], plain := false }
def ty33 : TI := { k := .fn, size := 1, bytes := 8, zero := [.nilFn], plain := false }
def ty34 : TI := { k := .sl 42, size := 1, bytes := 24, zero := [.sl none 0 (.ex 0)], plain := false }
def ty35 : TI := { k := .fn, size := 1, bytes := 8, zero := [.nilFn], plain := false }
def ty36 : TI := { k := .sl 3, size := 1, bytes := 24, zero := [.sl none 0 (.ex 0)], plain := false }
def ty37 : TI := { k := .tup, size := 1, bytes := 0, zero := [], plain := false }
def ty38 : TI := { k := .fn, size := 1, bytes := 8, zero := [.nilFn], plain := false }
def ty39 : TI := { k := .fn, size := 1, bytes := 8, zero := [.nilFn], plain := false }
def ty40 : TI := { k := .int .u64, size := 1, bytes := 8, zero := [.int .u64 0], plain := false }
def ty41 : TI := { k := .st [(3, 0), (3, 1)], size := 2, bytes := 16, zero := [.int .i64 0, .int .i64 0], plain := true }
def ty42 : TI := { k := .st [(3, 0), (3, 1)], size := 2, bytes := 16, zero := [.int .i64 0, .int .i64 0], plain := true }
def ty43 : TI := { k := .fn, size := 1, bytes := 8, zero := [.nilFn], plain := false }
def ty44 : TI := { k := .fn, size := 1, bytes := 8, zero := [.nilFn], plain := false }
def ty45 : TI := { k := .st [(3, 0), (34, 1), (3, 2), (3, 3)], size := 4, bytes := 48, zero := [.int .i64 0, .sl none 0 (.ex 0), .int .i64 0, .int .i64 0], plain := false }
def ty46 : TI := { k := .st [(3, 0), (34, 1), (3, 2), (3, 3)], size := 4, bytes := 48, zero := [.int .i64 0, .sl none 0 (.ex 0), .int .i64 0, .int .i64 0], plain := false }
def ty47 : TI := { k := .fn, size := 1, bytes := 8, zero := [.nilFn], plain := false }
def ty48 : TI := { k := .fn, size := 1, bytes := 8, zero := [.nilFn], plain := false }
def ty49 : TI := { k := .fn, size := 1, bytes := 8, zero := [.nilFn], plain := false }
def ty50 : TI := { k := .fn, size := 1, bytes := 8, zero := [.nilFn], plain := false }
def ty51 : TI := { k := .arr 5 3, size := 5, bytes := 40, zero := [.int .i64 0, .int .i64 0, .int .i64 0, .int .i64 0, .int .i64 0], plain := true }
def ty52 : TI := { k := .sl 54, size := 1, bytes := 24, zero := [.sl none 0 (.ex 0)], plain := false }
def ty53 : TI := { k := .fn, size := 1, bytes := 8, zero := [.nilFn], plain := false }
def ty54 : TI := { k := .arr 2 3, size := 2, bytes := 16, zero := [.int .i64 0, .int .i64 0], plain := true }
def ty55 : TI := { k := .ptr 73, size := 1, bytes := 8, zero := [.ptr none], plain := false }
def ty56 : TI := { k := .tup, size := 1, bytes := 0, zero := [], plain := false }
def ty57 : TI := { k := .fn, size := 1, bytes := 8, zero := [.nilFn], plain := false }
def ty58 : TI := { k := .tup, size := 1, bytes := 0, zero := [], plain := false }
def ty59 : TI := { k := .fn, size := 1, bytes := 8, zero := [.nilFn], plain := false }
def ty60 : TI := { k := .fn, size := 1, bytes := 8, zero := [.nilFn], plain := false }
def ty61 : TI := { k := .fn, size := 1, bytes := 8, zero := [.nilFn], plain := false }
def ty62 : TI := { k := .fn, size := 1, bytes := 8, zero := [.nilFn], plain := false }
def ty63 : TI := { k := .st [(31, 0), (3, 1), (3, 2), (36, 3), (36, 4), (3, 5)], size := 6, bytes := 96, zero := [.sl none 0 (.ex 0), .int .i64 0, .int .i64 0, .sl none 0 (.ex 0), .sl none 0 (.ex 0), .int .i64 0], plain := false }
def ty64 : TI := { k := .st [(31, 0), (3, 1), (3, 2), (36, 3), (36, 4), (3, 5)], size := 6, bytes := 96, zero := [.sl none 0 (.ex 0), .int .i64 0, .int .i64 0, .sl none 0 (.ex 0), .sl none 0 (.ex 0), .int .i64 0], plain := false }
def ty65 : TI := { k := .fn, size := 1, bytes := 8, zero := [.nilFn], plain := false }
def ty66 : TI := { k := .fn, size := 1, bytes := 8, zero := [.nilFn], plain := false }
def ty67 : TI := { k := .fn, size := 1, bytes := 8, zero := [.nilFn], plain := false }
def ty68 : TI := { k := .fn, size := 1, bytes := 8, zero := [.nilFn], plain := false }
def ty69 : TI := { k := .fn, size := 1, bytes := 8, zero := [.nilFn], plain := false }
def ty70 : TI := { k := .fn, size := 1, bytes := 8, zero := [.nilFn], plain := false }
def ty71 : TI := { k := .fn, size := 1, bytes := 8, zero := [.nilFn], plain := false }
def ty72 : TI := { k := .st [(36, 0), (36, 1), (36, 2), (3, 3), (3, 4)], size := 5, bytes := 88, zero := [.sl none 0 (.ex 0), .sl none 0 (.ex 0), .sl none 0 (.ex 0), .int .i64 0, .int .i64 0], plain := false }
def ty73 : TI := { k := .st [(36, 0), (36, 1), (36, 2), (3, 3), (3, 4)], size := 5, bytes := 88, zero := [.sl none 0 (.ex 0), .sl none 0 (.ex 0), .sl none 0 (.ex 0), .int .i64 0, .int .i64 0], plain := false }
def ty74 : TI := { k := .tup, size := 1, bytes := 0, zero := [], plain := false }
def ty75 : TI := { k := .fn, size := 1, bytes := 8, zero := [.nilFn], plain := false }
def ty76 : TI := { k := .fn, size := 1, bytes := 8, zero := [.nilFn], plain := false }
def ty77 : TI := { k := .fn, size := 1, bytes := 8, zero := [.nilFn], plain := false }
def ty78 : TI := { k := .fn, size := 1, bytes := 8, zero := [.nilFn], plain := false }
def ty79 : TI := { k := .fn, size := 1, bytes := 8, zero := [.nilFn], plain := false }
def ty80 : TI := { k := .fn, size := 1, bytes := 8, zero := [.nilFn], plain := false }
def ty81 : TI := { k := .fn, size := 1, bytes := 8, zero := [.nilFn], plain := false }
def ty82 : TI := { k := .fn, size := 1, bytes := 8, zero := [.nilFn], plain := false }
def ty83 : TI := { k := .fn, size := 1, bytes := 8, zero := [.nilFn], plain := false }
def ty84 : TI := { k := .int .i64, size := 1, bytes := 8, zero := [.int .i64 0], plain := false }
def ty85 : TI := { k := .tup, size := 1, bytes := 0, zero := [], plain := false }
def ty86 : TI := { k := .fn, size := 1, bytes := 8, zero := [.nilFn], plain := false }
def ty87 : TI := { k := .fn, size := 1, bytes := 8, zero := [.nilFn], plain := false }
def ty88 : TI := { k := .fn, size := 1, bytes := 8, zero := [.nilFn], plain := false }
def ty89 : TI := { k := .fn, size := 1, bytes := 8, zero := [.nilFn], plain := false }
def ty90 : TI := { k := .tup, size := 1, bytes := 0, zero := [], plain := false }
def ty91 : TI := { k := .fn, size := 1, bytes := 8, zero := [.nilFn], plain := false }
def ty92 : TI := { k := .fn, size := 1, bytes := 8, zero := [.nilFn], plain := false }
def ty93 : TI := { k := .int .u32, size := 1, bytes := 4, zero := [.int .u32 0], plain := false }
def ty94 : TI := { k := .fn, size := 1, bytes := 8, zero := [.nilFn], plain := false }
def ty95 : TI := { k := .int .u64, size := 1, bytes := 8, zero := [.int .u64 0], plain := false }
def ty96 : TI := { k := .int .u64, size := 1, bytes := 8, zero := [.int .u64 0], plain := false }
def ty97 : TI := { k := .fn, size := 1, bytes := 8, zero := [.nilFn], plain := false }
def ty98 : TI := { k := .fn, size := 1, bytes := 8, zero := [.nilFn], plain := false }
def ty99 : TI := { k := .fn, size := 1, bytes := 8, zero := [.nilFn], plain := false }
def ty100 : TI := { k := .ptr 3, size := 1, bytes := 8, zero := [.ptr none], plain := false }
def ty101 : TI := { k := .fn, size := 1, bytes := 8, zero := [.nilFn], plain := false }
def ty102 : TI := { k := .ptr 96, size := 1, bytes := 8, zero := [.ptr none], plain := false }
def ty103 : TI := { k := .fn, size := 1, bytes := 8, zero := [.nilFn], plain := false }
def ty104 : TI := { k := .fn, size := 1, bytes := 8, zero := [.nilFn], plain := false }
def ty105 : TI := { k := .st [(17, 0), (17, 1), (17, 2), (9, 3)], size := 4, bytes := 40, zero := [.ptr none, .ptr none, .ptr none, .str []], plain := false }
def ty106 : TI := { k := .st [(17, 0), (17, 1), (17, 2), (9, 3)], size := 4, bytes := 40, zero := [.ptr none, .ptr none, .ptr none, .str []], plain := false }
def ty107 : TI := { k := .arr 0 16, size := 0, bytes := 0, zero := [], plain := false }
def ty108 : TI := { k := .st [(107, 0)], size := 0, bytes := 0, zero := [], plain := false }
def ty109 : TI := { k := .st [(107, 0)], size := 0, bytes := 0, zero := [], plain := false }
def ty110 : TI := { k := .int .u8, size := 1, bytes := 1, zero := [.int .u8 0], plain := false }
def ty111 : TI := { k := .int .u8, size := 1, bytes := 1, zero := [.int .u8 0], plain := false }
def ty112 : TI := { k := .fn, size := 1, bytes := 8, zero := [.nilFn], plain := false }
def ty113 : TI := { k := .ptr 5, size := 1, bytes := 8, zero := [.ptr none], plain := false }
def ty114 : TI := { k := .int .i32, size := 1, bytes := 4, zero := [.int .i32 0], plain := false }
def ty115 : TI := { k := .int .i32, size := 1, bytes := 4, zero := [.int .i32 0], plain := false }
def ty116 : TI := { k := .st [(12, 0), (12, 1), (93, 2), (110, 3), (5, 4), (5, 5), (111, 6), (112, 7), (113, 8), (114, 9), (115, 10)], size := 11, bytes := 48, zero := [.int .u64 0, .int .u64 0, .int .u32 0, .int .u8 0, .int .u8 0, .int .u8 0, .int .u8 0, .nilFn, .ptr none, .int .i32 0, .int .i32 0], plain := false }
def ty117 : TI := { k := .st [(12, 0), (12, 1), (93, 2), (110, 3), (5, 4), (5, 5), (111, 6), (112, 7), (113, 8), (114, 9), (115, 10)], size := 11, bytes := 48, zero := [.int .u64 0, .int .u64 0, .int .u32 0, .int .u8 0, .int .u8 0, .int .u8 0, .int .u8 0, .nilFn, .ptr none, .int .i32 0, .int .i32 0], plain := false }
def tyT : BT TI := .node 59 ty59 (.node 29 ty29 (.node 14 ty14 (.node 7 ty7 (.node 3 ty3 (.node 1 ty1 (.node 0 ty0 .nil .nil) (.node 2 ty2 .nil .nil)) (.node 5 ty5 (.node 4 ty4 .nil .nil) (.node 6 ty6 .nil .nil))) (.node 11 ty11 (.node 9 ty9 (.node 8 ty8 .nil .nil) (.node 10 ty10 .nil .nil)) (.node 13 ty13 (.node 12 ty12 .nil .nil) .nil))) (.node 22 ty22 (.node 18 ty18 (.node 16 ty16 (.node 15 ty15 .nil .nil) (.node 17 ty17 .nil .nil)) (.node 20 ty20 (.node 19 ty19 .nil .nil) (.node 21 ty21 .nil .nil))) (.node 26 ty26 (.node 24 ty24 (.node 23 ty23 .nil .nil) (.node 25 ty25 .nil .nil)) (.node 28 ty28 (.node 27 ty27 .nil .nil) .nil)))) (.node 44 ty44 (.node 37 ty37 (.node 33 ty33 (.node 31 ty31 (.node 30 ty30 .nil .nil) (.node 32 ty32 .nil .nil)) (.node 35 ty35 (.node 34 ty34 .nil .nil) (.node 36 ty36 .nil .nil))) (.node 41 ty41 (.node 39 ty39 (.node 38 ty38 .nil .nil) (.node 40 ty40 .nil .nil)) (.node 43 ty43 (.node 42 ty42 .nil .nil) .nil))) (.node 52 ty52 (.node 48 ty48 (.node 46 ty46 (.node 45 ty45 .nil .nil) (.node 47 ty47 .nil .nil)) (.node 50 ty50 (.node 49 ty49 .nil .nil) (.node 51 ty51 .nil .nil))) (.node 56 ty56 (.node 54 ty54 (.node 53 ty53 .nil .nil) (.node 55 ty55 .nil .nil)) (.node 58 ty58 (.node 57 ty57 .nil .nil) .nil))))) (.node 89 ty89 (.node 74 ty74 (.node 67 ty67 (.node 63 ty63 (.node 61 ty61 (.node 60 ty60 .nil .nil) (.node 62 ty62 .nil .nil)) (.node 65 ty65 (.node 64 ty64 .nil .nil) (.node 66 ty66 .nil .nil))) (.node 71 ty71 (.node 69 ty69 (.node 68 ty68 .nil .nil) (.node 70 ty70 .nil .nil)) (.node 73 ty73 (.node 72 ty72 .nil .nil) .nil))) (.node 82 ty82 (.node 78 ty78 (.node 76 ty76 (.node 75 ty75 .nil .nil) (.node 77 ty77 .nil .nil)) (.node 80 ty80 (.node 79 ty79 .nil .nil) (.node 81 ty81 .nil .nil))) (.node 86 ty86 (.node 84 ty84 (.node 83 ty83 .nil .nil) (.node 85 ty85 .nil .nil)) (.node 88 ty88 (.node 87 ty87 .nil .nil) .nil)))) (.node 104 ty104 (.node 97 ty97 (.node 93 ty93 (.node 91 ty91 (.node 90 ty90 .nil .nil) (.node 92 ty92 .nil .nil)) (.node 95 ty95 (.node 94 ty94 .nil .nil) (.node 96 ty96 .nil .nil))) (.node 101 ty101 (.node 99 ty99 (.node 98 ty98 .nil .nil) (.node 100 ty100 .nil .nil)) (.node 103 ty103 (.node 102 ty102 .nil .nil) .nil))) (.node 111 ty111 (.node 108 ty108 (.node 106 ty106 (.node 105 ty105 .nil .nil) (.node 107 ty107 .nil .nil)) (.node 110 ty110 (.node 109 ty109 .nil .nil) .nil)) (.node 115 ty115 (.node 113 ty113 (.node 112 ty112 .nil .nil) (.node 114 ty114 .nil .nil)) (.node 117 ty117 (.node 116 ty116 .nil .nil) .nil)))))
noncomputable def fnT : BT Func := .node 45 Go.Proofs.Try.f45 (.node 24 Go.Proofs.Try.f24 (.node 13 Go.Proofs.Try.f13 (.node 8 Go.Proofs.Try.f8 (.node 5 Go.Proofs.Try.f5 (.node 4 Go.Proofs.Try.f4 (.node 3 Go.Proofs.Try.f3 .nil .nil) .nil) (.node 7 Go.Proofs.Try.f7 (.node 6 Go.Proofs.Try.f6 .nil .nil) .nil)) (.node 11 Go.Proofs.Try.f11 (.node 10 Go.Proofs.Try.f10 (.node 9 Go.Proofs.Try.f9 .nil .nil) .nil) (.node 12 Go.Proofs.Try.f12 .nil .nil))) (.node 19 Go.Proofs.Try.f19 (.node 16 Go.Proofs.Try.f16 (.node 15 Go.Proofs.Try.f15 (.node 14 Go.Proofs.Try.f14 .nil .nil) .nil) (.node 18 Go.Proofs.Try.f18 (.node 17 Go.Proofs.Try.f17 .nil .nil) .nil)) (.node 22 Go.Proofs.Try.f22 (.node 21 Go.Proofs.Try.f21 (.node 20 Go.Proofs.Try.f20 .nil .nil) .nil) (.node 23 Go.Proofs.Try.f23 .nil .nil)))) (.node 35 Go.Proofs.Try.f35 (.node 30 Go.Proofs.Try.f30 (.node 27 Go.Proofs.Try.f27 (.node 26 Go.Proofs.Try.f26 (.node 25 Go.Proofs.Try.f25 .nil .nil) .nil) (.node 29 Go.Proofs.Try.f29 (.node 28 Go.Proofs.Try.f28 .nil .nil) .nil)) (.node 33 Go.Proofs.Try.f33 (.node 32 Go.Proofs.Try.f32 (.node 31 Go.Proofs.Try.f31 .nil .nil) .nil) (.node 34 Go.Proofs.Try.f34 .nil .nil))) (.node 40 Go.Proofs.Try.f40 (.node 38 Go.Proofs.Try.f38 (.node 37 Go.Proofs.Try.f37 (.node 36 Go.Proofs.Try.f36 .nil .nil) .nil) (.node 39 Go.Proofs.Try.f39 .nil .nil)) (.node 43 Go.Proofs.Try.f43 (.node 42 Go.Proofs.Try.f42 (.node 41 Go.Proofs.Try.f41 .nil .nil) .nil) (.node 44 Go.Proofs.Try.f44 .nil .nil))))) (.node 66 Go.Proofs.Try.f66 (.node 56 Go.Proofs.Try.f56 (.node 51 Go.Proofs.Try.f51 (.node 48 Go.Proofs.Try.f48 (.node 47 Go.Proofs.Try.f47 (.node 46 Go.Proofs.Try.f46 .nil .nil) .nil) (.node 50 Go.Proofs.Try.f50 (.node 49 Go.Proofs.Try.f49 .nil .nil) .nil)) (.node 54 Go.Proofs.Try.f54 (.node 53 Go.Proofs.Try.f53 (.node 52 Go.Proofs.Try.f52 .nil .nil) .nil) (.node 55 Go.Proofs.Try.f55 .nil .nil))) (.node 61 Go.Proofs.Try.f61 (.node 59 Go.Proofs.Try.f59 (.node 58 Go.Proofs.Try.f58 (.node 57 Go.Proofs.Try.f57 .nil .nil) .nil) (.node 60 Go.Proofs.Try.f60 .nil .nil)) (.node 64 Go.Proofs.Try.f64 (.node 63 Go.Proofs.Try.f63 (.node 62 Go.Proofs.Try.f62 .nil .nil) .nil) (.node 65 Go.Proofs.Try.f65 .nil .nil)))) (.node 77 Go.Proofs.Try.f77 (.node 72 Go.Proofs.Try.f72 (.node 69 Go.Proofs.Try.f69 (.node 68 Go.Proofs.Try.f68 (.node 67 Go.Proofs.Try.f67 .nil .nil) .nil) (.node 71 Go.Proofs.Try.f71 (.node 70 Go.Proofs.Try.f70 .nil .nil) .nil)) (.node 75 Go.Proofs.Try.f75 (.node 74 Go.Proofs.Try.f74 (.node 73 Go.Proofs.Try.f73 .nil .nil) .nil) (.node 76 Go.Proofs.Try.f76 .nil .nil))) (.node 82 Go.Proofs.Try.f82 (.node 80 Go.Proofs.Try.f80 (.node 79 Go.Proofs.Try.f79 (.node 78 Go.Proofs.Try.f78 .nil .nil) .nil) (.node 81 Go.Proofs.Try.f81 .nil .nil)) (.node 85 Go.Proofs.Try.f85 (.node 84 Go.Proofs.Try.f84 (.node 83 Go.Proofs.Try.f83 .nil .nil) .nil) (.node 86 Go.Proofs.Try.f86 .nil .nil)))))
def lcT : BT (List (Nat × List Nat)) := .node 56 [(0, [0, 1, 5, 6])] (.node 24 [(0, [0, 1, 4, 5, 6, 25, 26])] (.node 8 [(0, [2, 7, 8, 10, 12]), (2, [2, 6, 8, 10, 13])] (.node 6 [(0, [0, 4, 5, 6, 8]), (2, [0, 4, 5, 6, 11])] (.node 5 [(0, [2, 3, 5, 6, 7, 8]), (2, [3, 5, 6, 7, 8, 9])] (.node 4 [(0, [0, 2, 7, 8, 9]), (2, [0, 2, 6, 7, 8, 10, 11])] .nil .nil) .nil) (.node 7 [(0, [0, 4, 5, 6, 7]), (2, [5, 6, 9, 10, 11])] .nil .nil)) (.node 17 [(0, [1, 5, 7, 9])] (.node 16 [(0, [3, 19, 20, 21])] .nil .nil) (.node 18 [(0, [0, 4, 5, 27, 28, 29]), (2, [0, 4, 5, 8, 42, 43, 44])] .nil .nil))) (.node 32 [(0, [0, 1, 5, 6, 7, 8, 9]), (2, [0, 1, 6, 7, 8, 10]), (4, [0, 1, 7, 8, 11]), (6, [0, 1, 8, 12]), (8, [0, 1, 4, 13])] (.node 28 [(0, [0, 2, 10, 11, 12])] (.node 25 [(0, [0, 11, 12, 13]), (2, [0, 24, 25, 26])] .nil .nil) (.node 30 [(0, [0, 1, 4, 5, 6, 8])] .nil .nil)) (.node 38 [(0, [0, 1, 4, 5])] (.node 34 [(0, [0, 2, 29, 30, 31])] .nil .nil) (.node 44 [(0, [0, 1, 4, 7, 8])] .nil .nil)))) (.node 69 [(0, [0, 1, 2, 6]), (2, [0, 1, 2, 6, 7])] (.node 63 [(0, [0, 1, 2, 3, 8, 9])] (.node 59 [(0, [0, 3, 4]), (2, [0, 3, 4, 5])] (.node 58 [(0, [0, 1, 4, 5])] (.node 57 [(0, [0, 3, 4])] .nil .nil) .nil) (.node 62 [(0, [0, 1, 4, 7, 8])] .nil .nil)) (.node 67 [(0, [0, 1, 5, 6])] (.node 66 [(0, [0, 1, 4, 5])] .nil .nil) (.node 68 [(0, [0, 1, 2, 7, 8]), (2, [0, 2, 7, 9])] .nil .nil))) (.node 74 [(0, [0, 1, 2, 6, 7, 8]), (2, [0, 1, 2, 7, 8]), (4, [0, 1, 2, 7, 8, 9]), (6, [0, 1, 2, 7, 8, 10])] (.node 71 [(0, [0, 1, 6, 7, 8, 9])] (.node 70 [(0, [0, 6, 7, 8, 9]), (2, [0, 6, 7, 10])] .nil .nil) (.node 73 [(0, [0, 6, 7])] .nil .nil)) (.node 77 [(0, [0, 1, 10, 11]), (2, [0, 1, 10, 11]), (4, [0, 1, 10, 11]), (6, [0, 1, 10, 11]), (8, [0, 1, 10, 11])] (.node 76 [(0, [0, 1, 9, 10]), (2, [0, 1, 9, 10]), (4, [0, 1, 9, 10])] .nil .nil) (.node 80 [(0, [0, 2, 3, 8])] .nil .nil))))
def cutT : BT (List (Nat × List Nat)) := .node 32 [(8, [0, 1, 6, 7, 8]), (12, [0, 1, 7, 8]), (16, [0, 1, 8]), (20, [0, 1]), (25, [0, 1])] (.node 17 [(7, [1, 5, 7, 9])] (.node 7 [(14, [5, 6]), (20, [5, 6, 9])] (.node 5 [(16, [3, 5, 6, 7, 8])] (.node 4 [(12, [0, 2, 7, 8, 9]), (15, [0, 2, 7, 8]), (18, [0, 2, 7, 8, 10, 11]), (29, [0, 2, 7, 8, 10, 11, 12, 13]), (31, [7, 10])] .nil .nil) (.node 6 [(16, [0, 5, 6]), (22, [5, 6])] .nil .nil)) (.node 16 [(9, [3, 19, 20, 21])] (.node 8 [(12, [2, 8, 10]), (19, [8, 10])] .nil .nil) .nil)) (.node 28 [(10, [0, 2, 10, 11, 12])] (.node 24 [(13, [0, 1, 6, 25, 26]), (14, [6])] (.node 18 [(10, [0, 4, 5]), (13, [0, 4, 5, 8]), (18, [4, 5])] .nil .nil) (.node 25 [(6, [0]), (11, [0])] .nil .nil)) (.node 31 [(39, [0])] (.node 30 [(8, [0, 1, 6, 8]), (13, [6])] .nil .nil) .nil))) (.node 68 [(4, [0, 1, 2, 7, 8]), (7, [0, 2, 7])] (.node 57 [(4, [0, 3, 4])] (.node 40 [(4, [0, 5])] (.node 34 [(12, [0, 2, 29, 30, 31])] .nil .nil) (.node 42 [(2, [0, 1, 2]), (4, [0, 1, 2])] .nil .nil)) (.node 67 [(4, [0, 1, 5, 6])] (.node 66 [(7, [0, 1, 5, 6])] .nil .nil) .nil)) (.node 74 [(4, [0, 1, 2, 7, 8]), (7, [0, 1, 2, 7, 8]), (18, [0, 1, 2, 7, 8])] (.node 72 [(11, [0, 9, 10, 11, 12]), (12, [9, 11])] (.node 70 [(7, [0, 6, 7, 8])] .nil .nil) .nil) (.node 77 [(7, [0, 1, 10, 11]), (17, [0, 1, 10, 11]), (21, [0, 1, 11])] (.node 76 [(7, [0, 1, 9, 10])] .nil .nil) .nil)))
def methT : List (TypeId × String × FuncId) := []
def lc (f cur : Nat) : List Nat := match lcT.find f with
  | some l => (l.lookup cur).getD []
  | none => []
def cutF (f r : Nat) : Option (List Nat) := match cutT.find f with
  | some l => l.lookup r
  | none => none
noncomputable def E : Env := { ty := tyT.find, func := fnT.find, cut := cutF, lcut := lc, meth := methF methT }
end Go.Al
