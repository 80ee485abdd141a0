/- Plain readings of the functions, and that they are what the evaluator does: by program. -/
import Derived.Test.YteakdhikjddogaaDoorGrRes
import Derived.Test.YteakdhikjddogaaDoorENV
import Derived.KernelRfl
set_option maxRecDepth 100000
set_option linter.unusedVariables false
namespace Go.Ct
open Go.Gr
noncomputable section
def b83_l1_0_0 (call : CallA) (n : Nat)  (l1_0_0 : Option Pos → Nat → Cap → Int → Int → AS → Option (AV × AS)) (w0a : Option Pos) (w0l : Nat) (w0c : Cap) (w1 : Int) (w4 : Int) (S : AS) : Option (AV × AS) :=
 cond (decide (w4 ≥ 8)) (
 ixStr ([48, 48, 48, 49, 48, 50, 48, 51, 48, 52, 48, 53, 48, 54, 48, 55, 48, 56, 48, 57, 49, 48, 49, 49, 49, 50, 49, 51, 49, 52, 49, 53, 49, 54, 49, 55, 49, 56, 49, 57, 50, 48, 50, 49, 50, 50, 50, 51, 50, 52, 50, 53, 50, 54, 50, 55, 50, 56, 50, 57, 51, 48, 51, 49, 51, 50, 51, 51, 51, 52, 51, 53, 51, 54, 51, 55, 51, 56, 51, 57, 52, 48, 52, 49, 52, 50, 52, 51, 52, 52, 52, 53, 52, 54, 52, 55, 52, 56, 52, 57, 53, 48, 53, 49, 53, 50, 53, 51, 53, 52, 53, 53, 53, 54, 53, 55, 53, 56, 53, 57, 54, 48, 54, 49, 54, 50, 54, 51, 54, 52, 54, 53, 54, 54, 54, 55, 54, 56, 54, 57, 55, 48, 55, 49, 55, 50, 55, 51, 55, 52, 55, 53, 55, 54, 55, 55, 55, 56, 55, 57, 56, 48, 56, 49, 56, 50, 56, 51, 56, 52, 56, 53, 56, 54, 56, 55, 56, 56, 56, 57, 57, 48, 57, 49, 57, 50, 57, 51, 57, 52, 57, 53, 57, 54, 57, 55, 57, 56, 57, 57]) (IntKind.wrap .u32 ((IntKind.wrap .u32 ((Int.tmod (Int.tmod (IntKind.wrap .u32 (Int.tmod w1 100000000)) 10000) 100) * 2)) + 1)) fun v1 =>
 ixStr ([48, 48, 48, 49, 48, 50, 48, 51, 48, 52, 48, 53, 48, 54, 48, 55, 48, 56, 48, 57, 49, 48, 49, 49, 49, 50, 49, 51, 49, 52, 49, 53, 49, 54, 49, 55, 49, 56, 49, 57, 50, 48, 50, 49, 50, 50, 50, 51, 50, 52, 50, 53, 50, 54, 50, 55, 50, 56, 50, 57, 51, 48, 51, 49, 51, 50, 51, 51, 51, 52, 51, 53, 51, 54, 51, 55, 51, 56, 51, 57, 52, 48, 52, 49, 52, 50, 52, 51, 52, 52, 52, 53, 52, 54, 52, 55, 52, 56, 52, 57, 53, 48, 53, 49, 53, 50, 53, 51, 53, 52, 53, 53, 53, 54, 53, 55, 53, 56, 53, 57, 54, 48, 54, 49, 54, 50, 54, 51, 54, 52, 54, 53, 54, 54, 54, 55, 54, 56, 54, 57, 55, 48, 55, 49, 55, 50, 55, 51, 55, 52, 55, 53, 55, 54, 55, 55, 55, 56, 55, 57, 56, 48, 56, 49, 56, 50, 56, 51, 56, 52, 56, 53, 56, 54, 56, 55, 56, 56, 56, 57, 57, 48, 57, 49, 57, 50, 57, 51, 57, 52, 57, 53, 57, 54, 57, 55, 57, 56, 57, 57]) (IntKind.wrap .u32 ((Int.tmod (Int.tmod (IntKind.wrap .u32 (Int.tmod w1 100000000)) 10000) 100) * 2)) fun v2 =>
 ixSl 1 w0a w0l (IntKind.wrap .i64 (w4 - 1)) fun p3 =>
 S.stn p3.1 p3.2 [(.int .u8 v1)] fun S4 =>
 ixSl 1 w0a w0l (IntKind.wrap .i64 (w4 - 2)) fun p5 =>
 S4.stn p5.1 p5.2 [(.int .u8 v2)] fun S6 =>
 ixStr ([48, 48, 48, 49, 48, 50, 48, 51, 48, 52, 48, 53, 48, 54, 48, 55, 48, 56, 48, 57, 49, 48, 49, 49, 49, 50, 49, 51, 49, 52, 49, 53, 49, 54, 49, 55, 49, 56, 49, 57, 50, 48, 50, 49, 50, 50, 50, 51, 50, 52, 50, 53, 50, 54, 50, 55, 50, 56, 50, 57, 51, 48, 51, 49, 51, 50, 51, 51, 51, 52, 51, 53, 51, 54, 51, 55, 51, 56, 51, 57, 52, 48, 52, 49, 52, 50, 52, 51, 52, 52, 52, 53, 52, 54, 52, 55, 52, 56, 52, 57, 53, 48, 53, 49, 53, 50, 53, 51, 53, 52, 53, 53, 53, 54, 53, 55, 53, 56, 53, 57, 54, 48, 54, 49, 54, 50, 54, 51, 54, 52, 54, 53, 54, 54, 54, 55, 54, 56, 54, 57, 55, 48, 55, 49, 55, 50, 55, 51, 55, 52, 55, 53, 55, 54, 55, 55, 55, 56, 55, 57, 56, 48, 56, 49, 56, 50, 56, 51, 56, 52, 56, 53, 56, 54, 56, 55, 56, 56, 56, 57, 57, 48, 57, 49, 57, 50, 57, 51, 57, 52, 57, 53, 57, 54, 57, 55, 57, 56, 57, 57]) (IntKind.wrap .u32 ((IntKind.wrap .u32 ((IntKind.wrap .u32 (Int.tdiv (Int.tmod (IntKind.wrap .u32 (Int.tmod w1 100000000)) 10000) 100)) * 2)) + 1)) fun v7 =>
 ixStr ([48, 48, 48, 49, 48, 50, 48, 51, 48, 52, 48, 53, 48, 54, 48, 55, 48, 56, 48, 57, 49, 48, 49, 49, 49, 50, 49, 51, 49, 52, 49, 53, 49, 54, 49, 55, 49, 56, 49, 57, 50, 48, 50, 49, 50, 50, 50, 51, 50, 52, 50, 53, 50, 54, 50, 55, 50, 56, 50, 57, 51, 48, 51, 49, 51, 50, 51, 51, 51, 52, 51, 53, 51, 54, 51, 55, 51, 56, 51, 57, 52, 48, 52, 49, 52, 50, 52, 51, 52, 52, 52, 53, 52, 54, 52, 55, 52, 56, 52, 57, 53, 48, 53, 49, 53, 50, 53, 51, 53, 52, 53, 53, 53, 54, 53, 55, 53, 56, 53, 57, 54, 48, 54, 49, 54, 50, 54, 51, 54, 52, 54, 53, 54, 54, 54, 55, 54, 56, 54, 57, 55, 48, 55, 49, 55, 50, 55, 51, 55, 52, 55, 53, 55, 54, 55, 55, 55, 56, 55, 57, 56, 48, 56, 49, 56, 50, 56, 51, 56, 52, 56, 53, 56, 54, 56, 55, 56, 56, 56, 57, 57, 48, 57, 49, 57, 50, 57, 51, 57, 52, 57, 53, 57, 54, 57, 55, 57, 56, 57, 57]) (IntKind.wrap .u32 ((IntKind.wrap .u32 (Int.tdiv (Int.tmod (IntKind.wrap .u32 (Int.tmod w1 100000000)) 10000) 100)) * 2)) fun v8 =>
 ixSl 1 w0a w0l (IntKind.wrap .i64 (w4 - 3)) fun p9 =>
 S6.stn p9.1 p9.2 [(.int .u8 v7)] fun S10 =>
 ixSl 1 w0a w0l (IntKind.wrap .i64 (w4 - 4)) fun p11 =>
 S10.stn p11.1 p11.2 [(.int .u8 v8)] fun S12 =>
 ixStr ([48, 48, 48, 49, 48, 50, 48, 51, 48, 52, 48, 53, 48, 54, 48, 55, 48, 56, 48, 57, 49, 48, 49, 49, 49, 50, 49, 51, 49, 52, 49, 53, 49, 54, 49, 55, 49, 56, 49, 57, 50, 48, 50, 49, 50, 50, 50, 51, 50, 52, 50, 53, 50, 54, 50, 55, 50, 56, 50, 57, 51, 48, 51, 49, 51, 50, 51, 51, 51, 52, 51, 53, 51, 54, 51, 55, 51, 56, 51, 57, 52, 48, 52, 49, 52, 50, 52, 51, 52, 52, 52, 53, 52, 54, 52, 55, 52, 56, 52, 57, 53, 48, 53, 49, 53, 50, 53, 51, 53, 52, 53, 53, 53, 54, 53, 55, 53, 56, 53, 57, 54, 48, 54, 49, 54, 50, 54, 51, 54, 52, 54, 53, 54, 54, 54, 55, 54, 56, 54, 57, 55, 48, 55, 49, 55, 50, 55, 51, 55, 52, 55, 53, 55, 54, 55, 55, 55, 56, 55, 57, 56, 48, 56, 49, 56, 50, 56, 51, 56, 52, 56, 53, 56, 54, 56, 55, 56, 56, 56, 57, 57, 48, 57, 49, 57, 50, 57, 51, 57, 52, 57, 53, 57, 54, 57, 55, 57, 56, 57, 57]) (IntKind.wrap .u32 ((IntKind.wrap .u32 ((Int.tmod (IntKind.wrap .u32 (Int.tdiv (IntKind.wrap .u32 (Int.tmod w1 100000000)) 10000)) 100) * 2)) + 1)) fun v13 =>
 ixStr ([48, 48, 48, 49, 48, 50, 48, 51, 48, 52, 48, 53, 48, 54, 48, 55, 48, 56, 48, 57, 49, 48, 49, 49, 49, 50, 49, 51, 49, 52, 49, 53, 49, 54, 49, 55, 49, 56, 49, 57, 50, 48, 50, 49, 50, 50, 50, 51, 50, 52, 50, 53, 50, 54, 50, 55, 50, 56, 50, 57, 51, 48, 51, 49, 51, 50, 51, 51, 51, 52, 51, 53, 51, 54, 51, 55, 51, 56, 51, 57, 52, 48, 52, 49, 52, 50, 52, 51, 52, 52, 52, 53, 52, 54, 52, 55, 52, 56, 52, 57, 53, 48, 53, 49, 53, 50, 53, 51, 53, 52, 53, 53, 53, 54, 53, 55, 53, 56, 53, 57, 54, 48, 54, 49, 54, 50, 54, 51, 54, 52, 54, 53, 54, 54, 54, 55, 54, 56, 54, 57, 55, 48, 55, 49, 55, 50, 55, 51, 55, 52, 55, 53, 55, 54, 55, 55, 55, 56, 55, 57, 56, 48, 56, 49, 56, 50, 56, 51, 56, 52, 56, 53, 56, 54, 56, 55, 56, 56, 56, 57, 57, 48, 57, 49, 57, 50, 57, 51, 57, 52, 57, 53, 57, 54, 57, 55, 57, 56, 57, 57]) (IntKind.wrap .u32 ((Int.tmod (IntKind.wrap .u32 (Int.tdiv (IntKind.wrap .u32 (Int.tmod w1 100000000)) 10000)) 100) * 2)) fun v14 =>
 ixSl 1 w0a w0l (IntKind.wrap .i64 (w4 - 5)) fun p15 =>
 S12.stn p15.1 p15.2 [(.int .u8 v13)] fun S16 =>
 ixSl 1 w0a w0l (IntKind.wrap .i64 (w4 - 6)) fun p17 =>
 S16.stn p17.1 p17.2 [(.int .u8 v14)] fun S18 =>
 ixStr ([48, 48, 48, 49, 48, 50, 48, 51, 48, 52, 48, 53, 48, 54, 48, 55, 48, 56, 48, 57, 49, 48, 49, 49, 49, 50, 49, 51, 49, 52, 49, 53, 49, 54, 49, 55, 49, 56, 49, 57, 50, 48, 50, 49, 50, 50, 50, 51, 50, 52, 50, 53, 50, 54, 50, 55, 50, 56, 50, 57, 51, 48, 51, 49, 51, 50, 51, 51, 51, 52, 51, 53, 51, 54, 51, 55, 51, 56, 51, 57, 52, 48, 52, 49, 52, 50, 52, 51, 52, 52, 52, 53, 52, 54, 52, 55, 52, 56, 52, 57, 53, 48, 53, 49, 53, 50, 53, 51, 53, 52, 53, 53, 53, 54, 53, 55, 53, 56, 53, 57, 54, 48, 54, 49, 54, 50, 54, 51, 54, 52, 54, 53, 54, 54, 54, 55, 54, 56, 54, 57, 55, 48, 55, 49, 55, 50, 55, 51, 55, 52, 55, 53, 55, 54, 55, 55, 55, 56, 55, 57, 56, 48, 56, 49, 56, 50, 56, 51, 56, 52, 56, 53, 56, 54, 56, 55, 56, 56, 56, 57, 57, 48, 57, 49, 57, 50, 57, 51, 57, 52, 57, 53, 57, 54, 57, 55, 57, 56, 57, 57]) (IntKind.wrap .u32 ((IntKind.wrap .u32 ((IntKind.wrap .u32 (Int.tdiv (IntKind.wrap .u32 (Int.tdiv (IntKind.wrap .u32 (Int.tmod w1 100000000)) 10000)) 100)) * 2)) + 1)) fun v19 =>
 ixStr ([48, 48, 48, 49, 48, 50, 48, 51, 48, 52, 48, 53, 48, 54, 48, 55, 48, 56, 48, 57, 49, 48, 49, 49, 49, 50, 49, 51, 49, 52, 49, 53, 49, 54, 49, 55, 49, 56, 49, 57, 50, 48, 50, 49, 50, 50, 50, 51, 50, 52, 50, 53, 50, 54, 50, 55, 50, 56, 50, 57, 51, 48, 51, 49, 51, 50, 51, 51, 51, 52, 51, 53, 51, 54, 51, 55, 51, 56, 51, 57, 52, 48, 52, 49, 52, 50, 52, 51, 52, 52, 52, 53, 52, 54, 52, 55, 52, 56, 52, 57, 53, 48, 53, 49, 53, 50, 53, 51, 53, 52, 53, 53, 53, 54, 53, 55, 53, 56, 53, 57, 54, 48, 54, 49, 54, 50, 54, 51, 54, 52, 54, 53, 54, 54, 54, 55, 54, 56, 54, 57, 55, 48, 55, 49, 55, 50, 55, 51, 55, 52, 55, 53, 55, 54, 55, 55, 55, 56, 55, 57, 56, 48, 56, 49, 56, 50, 56, 51, 56, 52, 56, 53, 56, 54, 56, 55, 56, 56, 56, 57, 57, 48, 57, 49, 57, 50, 57, 51, 57, 52, 57, 53, 57, 54, 57, 55, 57, 56, 57, 57]) (IntKind.wrap .u32 ((IntKind.wrap .u32 (Int.tdiv (IntKind.wrap .u32 (Int.tdiv (IntKind.wrap .u32 (Int.tmod w1 100000000)) 10000)) 100)) * 2)) fun v20 =>
 ixSl 1 w0a w0l (IntKind.wrap .i64 (w4 - 7)) fun p21 =>
 S18.stn p21.1 p21.2 [(.int .u8 v19)] fun S22 =>
 ixSl 1 w0a w0l (IntKind.wrap .i64 (w4 - 8)) fun p23 =>
 S22.stn p23.1 p23.2 [(.int .u8 v20)] fun S24 =>
 l1_0_0 w0a w0l w0c (IntKind.wrap .u64 (Int.tdiv w1 100000000)) (IntKind.wrap .i64 (w4 - 8)) S24) (
 cond (decide (w4 ≥ 4)) (
 ixStr ([48, 48, 48, 49, 48, 50, 48, 51, 48, 52, 48, 53, 48, 54, 48, 55, 48, 56, 48, 57, 49, 48, 49, 49, 49, 50, 49, 51, 49, 52, 49, 53, 49, 54, 49, 55, 49, 56, 49, 57, 50, 48, 50, 49, 50, 50, 50, 51, 50, 52, 50, 53, 50, 54, 50, 55, 50, 56, 50, 57, 51, 48, 51, 49, 51, 50, 51, 51, 51, 52, 51, 53, 51, 54, 51, 55, 51, 56, 51, 57, 52, 48, 52, 49, 52, 50, 52, 51, 52, 52, 52, 53, 52, 54, 52, 55, 52, 56, 52, 57, 53, 48, 53, 49, 53, 50, 53, 51, 53, 52, 53, 53, 53, 54, 53, 55, 53, 56, 53, 57, 54, 48, 54, 49, 54, 50, 54, 51, 54, 52, 54, 53, 54, 54, 54, 55, 54, 56, 54, 57, 55, 48, 55, 49, 55, 50, 55, 51, 55, 52, 55, 53, 55, 54, 55, 55, 55, 56, 55, 57, 56, 48, 56, 49, 56, 50, 56, 51, 56, 52, 56, 53, 56, 54, 56, 55, 56, 56, 56, 57, 57, 48, 57, 49, 57, 50, 57, 51, 57, 52, 57, 53, 57, 54, 57, 55, 57, 56, 57, 57]) (IntKind.wrap .u32 ((IntKind.wrap .u32 ((Int.tmod (Int.tmod (IntKind.wrap .u32 w1) 10000) 100) * 2)) + 1)) fun v25 =>
 ixStr ([48, 48, 48, 49, 48, 50, 48, 51, 48, 52, 48, 53, 48, 54, 48, 55, 48, 56, 48, 57, 49, 48, 49, 49, 49, 50, 49, 51, 49, 52, 49, 53, 49, 54, 49, 55, 49, 56, 49, 57, 50, 48, 50, 49, 50, 50, 50, 51, 50, 52, 50, 53, 50, 54, 50, 55, 50, 56, 50, 57, 51, 48, 51, 49, 51, 50, 51, 51, 51, 52, 51, 53, 51, 54, 51, 55, 51, 56, 51, 57, 52, 48, 52, 49, 52, 50, 52, 51, 52, 52, 52, 53, 52, 54, 52, 55, 52, 56, 52, 57, 53, 48, 53, 49, 53, 50, 53, 51, 53, 52, 53, 53, 53, 54, 53, 55, 53, 56, 53, 57, 54, 48, 54, 49, 54, 50, 54, 51, 54, 52, 54, 53, 54, 54, 54, 55, 54, 56, 54, 57, 55, 48, 55, 49, 55, 50, 55, 51, 55, 52, 55, 53, 55, 54, 55, 55, 55, 56, 55, 57, 56, 48, 56, 49, 56, 50, 56, 51, 56, 52, 56, 53, 56, 54, 56, 55, 56, 56, 56, 57, 57, 48, 57, 49, 57, 50, 57, 51, 57, 52, 57, 53, 57, 54, 57, 55, 57, 56, 57, 57]) (IntKind.wrap .u32 ((Int.tmod (Int.tmod (IntKind.wrap .u32 w1) 10000) 100) * 2)) fun v26 =>
 ixSl 1 w0a w0l (IntKind.wrap .i64 (w4 - 1)) fun p27 =>
 S.stn p27.1 p27.2 [(.int .u8 v25)] fun S28 =>
 ixSl 1 w0a w0l (IntKind.wrap .i64 (w4 - 2)) fun p29 =>
 S28.stn p29.1 p29.2 [(.int .u8 v26)] fun S30 =>
 ixStr ([48, 48, 48, 49, 48, 50, 48, 51, 48, 52, 48, 53, 48, 54, 48, 55, 48, 56, 48, 57, 49, 48, 49, 49, 49, 50, 49, 51, 49, 52, 49, 53, 49, 54, 49, 55, 49, 56, 49, 57, 50, 48, 50, 49, 50, 50, 50, 51, 50, 52, 50, 53, 50, 54, 50, 55, 50, 56, 50, 57, 51, 48, 51, 49, 51, 50, 51, 51, 51, 52, 51, 53, 51, 54, 51, 55, 51, 56, 51, 57, 52, 48, 52, 49, 52, 50, 52, 51, 52, 52, 52, 53, 52, 54, 52, 55, 52, 56, 52, 57, 53, 48, 53, 49, 53, 50, 53, 51, 53, 52, 53, 53, 53, 54, 53, 55, 53, 56, 53, 57, 54, 48, 54, 49, 54, 50, 54, 51, 54, 52, 54, 53, 54, 54, 54, 55, 54, 56, 54, 57, 55, 48, 55, 49, 55, 50, 55, 51, 55, 52, 55, 53, 55, 54, 55, 55, 55, 56, 55, 57, 56, 48, 56, 49, 56, 50, 56, 51, 56, 52, 56, 53, 56, 54, 56, 55, 56, 56, 56, 57, 57, 48, 57, 49, 57, 50, 57, 51, 57, 52, 57, 53, 57, 54, 57, 55, 57, 56, 57, 57]) (IntKind.wrap .u32 ((IntKind.wrap .u32 ((IntKind.wrap .u32 (Int.tdiv (Int.tmod (IntKind.wrap .u32 w1) 10000) 100)) * 2)) + 1)) fun v31 =>
 ixStr ([48, 48, 48, 49, 48, 50, 48, 51, 48, 52, 48, 53, 48, 54, 48, 55, 48, 56, 48, 57, 49, 48, 49, 49, 49, 50, 49, 51, 49, 52, 49, 53, 49, 54, 49, 55, 49, 56, 49, 57, 50, 48, 50, 49, 50, 50, 50, 51, 50, 52, 50, 53, 50, 54, 50, 55, 50, 56, 50, 57, 51, 48, 51, 49, 51, 50, 51, 51, 51, 52, 51, 53, 51, 54, 51, 55, 51, 56, 51, 57, 52, 48, 52, 49, 52, 50, 52, 51, 52, 52, 52, 53, 52, 54, 52, 55, 52, 56, 52, 57, 53, 48, 53, 49, 53, 50, 53, 51, 53, 52, 53, 53, 53, 54, 53, 55, 53, 56, 53, 57, 54, 48, 54, 49, 54, 50, 54, 51, 54, 52, 54, 53, 54, 54, 54, 55, 54, 56, 54, 57, 55, 48, 55, 49, 55, 50, 55, 51, 55, 52, 55, 53, 55, 54, 55, 55, 55, 56, 55, 57, 56, 48, 56, 49, 56, 50, 56, 51, 56, 52, 56, 53, 56, 54, 56, 55, 56, 56, 56, 57, 57, 48, 57, 49, 57, 50, 57, 51, 57, 52, 57, 53, 57, 54, 57, 55, 57, 56, 57, 57]) (IntKind.wrap .u32 ((IntKind.wrap .u32 (Int.tdiv (Int.tmod (IntKind.wrap .u32 w1) 10000) 100)) * 2)) fun v32 =>
 ixSl 1 w0a w0l (IntKind.wrap .i64 (w4 - 3)) fun p33 =>
 S30.stn p33.1 p33.2 [(.int .u8 v31)] fun S34 =>
 ixSl 1 w0a w0l (IntKind.wrap .i64 (w4 - 4)) fun p35 =>
 S34.stn p35.1 p35.2 [(.int .u8 v32)] fun S36 =>
 cond (decide ((IntKind.wrap .i64 (w4 - 4)) ≥ 2)) (
 ixStr ([48, 48, 48, 49, 48, 50, 48, 51, 48, 52, 48, 53, 48, 54, 48, 55, 48, 56, 48, 57, 49, 48, 49, 49, 49, 50, 49, 51, 49, 52, 49, 53, 49, 54, 49, 55, 49, 56, 49, 57, 50, 48, 50, 49, 50, 50, 50, 51, 50, 52, 50, 53, 50, 54, 50, 55, 50, 56, 50, 57, 51, 48, 51, 49, 51, 50, 51, 51, 51, 52, 51, 53, 51, 54, 51, 55, 51, 56, 51, 57, 52, 48, 52, 49, 52, 50, 52, 51, 52, 52, 52, 53, 52, 54, 52, 55, 52, 56, 52, 57, 53, 48, 53, 49, 53, 50, 53, 51, 53, 52, 53, 53, 53, 54, 53, 55, 53, 56, 53, 57, 54, 48, 54, 49, 54, 50, 54, 51, 54, 52, 54, 53, 54, 54, 54, 55, 54, 56, 54, 57, 55, 48, 55, 49, 55, 50, 55, 51, 55, 52, 55, 53, 55, 54, 55, 55, 55, 56, 55, 57, 56, 48, 56, 49, 56, 50, 56, 51, 56, 52, 56, 53, 56, 54, 56, 55, 56, 56, 56, 57, 57, 48, 57, 49, 57, 50, 57, 51, 57, 52, 57, 53, 57, 54, 57, 55, 57, 56, 57, 57]) (IntKind.wrap .u32 ((IntKind.wrap .u32 ((Int.tmod (IntKind.wrap .u32 (Int.tdiv (IntKind.wrap .u32 w1) 10000)) 100) * 2)) + 1)) fun v37 =>
 ixStr ([48, 48, 48, 49, 48, 50, 48, 51, 48, 52, 48, 53, 48, 54, 48, 55, 48, 56, 48, 57, 49, 48, 49, 49, 49, 50, 49, 51, 49, 52, 49, 53, 49, 54, 49, 55, 49, 56, 49, 57, 50, 48, 50, 49, 50, 50, 50, 51, 50, 52, 50, 53, 50, 54, 50, 55, 50, 56, 50, 57, 51, 48, 51, 49, 51, 50, 51, 51, 51, 52, 51, 53, 51, 54, 51, 55, 51, 56, 51, 57, 52, 48, 52, 49, 52, 50, 52, 51, 52, 52, 52, 53, 52, 54, 52, 55, 52, 56, 52, 57, 53, 48, 53, 49, 53, 50, 53, 51, 53, 52, 53, 53, 53, 54, 53, 55, 53, 56, 53, 57, 54, 48, 54, 49, 54, 50, 54, 51, 54, 52, 54, 53, 54, 54, 54, 55, 54, 56, 54, 57, 55, 48, 55, 49, 55, 50, 55, 51, 55, 52, 55, 53, 55, 54, 55, 55, 55, 56, 55, 57, 56, 48, 56, 49, 56, 50, 56, 51, 56, 52, 56, 53, 56, 54, 56, 55, 56, 56, 56, 57, 57, 48, 57, 49, 57, 50, 57, 51, 57, 52, 57, 53, 57, 54, 57, 55, 57, 56, 57, 57]) (IntKind.wrap .u32 ((Int.tmod (IntKind.wrap .u32 (Int.tdiv (IntKind.wrap .u32 w1) 10000)) 100) * 2)) fun v38 =>
 ixSl 1 w0a w0l (IntKind.wrap .i64 ((IntKind.wrap .i64 (w4 - 4)) - 1)) fun p39 =>
 S36.stn p39.1 p39.2 [(.int .u8 v37)] fun S40 =>
 ixSl 1 w0a w0l (IntKind.wrap .i64 ((IntKind.wrap .i64 (w4 - 4)) - 2)) fun p41 =>
 S40.stn p41.1 p41.2 [(.int .u8 v38)] fun S42 =>
 cond (decide ((IntKind.wrap .i64 ((IntKind.wrap .i64 (w4 - 4)) - 2)) > 0)) (
 ixSl 1 w0a w0l 0 fun p43 =>
 S42.stn p43.1 p43.2 [(.int .u8 (IntKind.wrap .u8 (IntKind.wrap .u32 (48 + (IntKind.wrap .u32 (Int.tdiv (IntKind.wrap .u32 (Int.tdiv (IntKind.wrap .u32 w1) 10000)) 100))))))] fun S44 =>
 some (.tup [], S44)) (
 some (.tup [], S42))) (
 cond (decide ((IntKind.wrap .i64 (w4 - 4)) > 0)) (
 ixSl 1 w0a w0l 0 fun p45 =>
 S36.stn p45.1 p45.2 [(.int .u8 (IntKind.wrap .u8 (IntKind.wrap .u32 (48 + (IntKind.wrap .u32 (Int.tdiv (IntKind.wrap .u32 w1) 10000))))))] fun S46 =>
 some (.tup [], S46)) (
 some (.tup [], S36)))) (
 cond (decide (w4 ≥ 2)) (
 ixStr ([48, 48, 48, 49, 48, 50, 48, 51, 48, 52, 48, 53, 48, 54, 48, 55, 48, 56, 48, 57, 49, 48, 49, 49, 49, 50, 49, 51, 49, 52, 49, 53, 49, 54, 49, 55, 49, 56, 49, 57, 50, 48, 50, 49, 50, 50, 50, 51, 50, 52, 50, 53, 50, 54, 50, 55, 50, 56, 50, 57, 51, 48, 51, 49, 51, 50, 51, 51, 51, 52, 51, 53, 51, 54, 51, 55, 51, 56, 51, 57, 52, 48, 52, 49, 52, 50, 52, 51, 52, 52, 52, 53, 52, 54, 52, 55, 52, 56, 52, 57, 53, 48, 53, 49, 53, 50, 53, 51, 53, 52, 53, 53, 53, 54, 53, 55, 53, 56, 53, 57, 54, 48, 54, 49, 54, 50, 54, 51, 54, 52, 54, 53, 54, 54, 54, 55, 54, 56, 54, 57, 55, 48, 55, 49, 55, 50, 55, 51, 55, 52, 55, 53, 55, 54, 55, 55, 55, 56, 55, 57, 56, 48, 56, 49, 56, 50, 56, 51, 56, 52, 56, 53, 56, 54, 56, 55, 56, 56, 56, 57, 57, 48, 57, 49, 57, 50, 57, 51, 57, 52, 57, 53, 57, 54, 57, 55, 57, 56, 57, 57]) (IntKind.wrap .u32 ((IntKind.wrap .u32 ((Int.tmod (IntKind.wrap .u32 w1) 100) * 2)) + 1)) fun v47 =>
 ixStr ([48, 48, 48, 49, 48, 50, 48, 51, 48, 52, 48, 53, 48, 54, 48, 55, 48, 56, 48, 57, 49, 48, 49, 49, 49, 50, 49, 51, 49, 52, 49, 53, 49, 54, 49, 55, 49, 56, 49, 57, 50, 48, 50, 49, 50, 50, 50, 51, 50, 52, 50, 53, 50, 54, 50, 55, 50, 56, 50, 57, 51, 48, 51, 49, 51, 50, 51, 51, 51, 52, 51, 53, 51, 54, 51, 55, 51, 56, 51, 57, 52, 48, 52, 49, 52, 50, 52, 51, 52, 52, 52, 53, 52, 54, 52, 55, 52, 56, 52, 57, 53, 48, 53, 49, 53, 50, 53, 51, 53, 52, 53, 53, 53, 54, 53, 55, 53, 56, 53, 57, 54, 48, 54, 49, 54, 50, 54, 51, 54, 52, 54, 53, 54, 54, 54, 55, 54, 56, 54, 57, 55, 48, 55, 49, 55, 50, 55, 51, 55, 52, 55, 53, 55, 54, 55, 55, 55, 56, 55, 57, 56, 48, 56, 49, 56, 50, 56, 51, 56, 52, 56, 53, 56, 54, 56, 55, 56, 56, 56, 57, 57, 48, 57, 49, 57, 50, 57, 51, 57, 52, 57, 53, 57, 54, 57, 55, 57, 56, 57, 57]) (IntKind.wrap .u32 ((Int.tmod (IntKind.wrap .u32 w1) 100) * 2)) fun v48 =>
 ixSl 1 w0a w0l (IntKind.wrap .i64 (w4 - 1)) fun p49 =>
 S.stn p49.1 p49.2 [(.int .u8 v47)] fun S50 =>
 ixSl 1 w0a w0l (IntKind.wrap .i64 (w4 - 2)) fun p51 =>
 S50.stn p51.1 p51.2 [(.int .u8 v48)] fun S52 =>
 cond (decide ((IntKind.wrap .i64 (w4 - 2)) > 0)) (
 ixSl 1 w0a w0l 0 fun p53 =>
 S52.stn p53.1 p53.2 [(.int .u8 (IntKind.wrap .u8 (IntKind.wrap .u32 (48 + (IntKind.wrap .u32 (Int.tdiv (IntKind.wrap .u32 w1) 100))))))] fun S54 =>
 some (.tup [], S54)) (
 some (.tup [], S52))) (
 cond (decide (w4 > 0)) (
 ixSl 1 w0a w0l 0 fun p55 =>
 S.stn p55.1 p55.2 [(.int .u8 (IntKind.wrap .u8 (IntKind.wrap .u32 (48 + (IntKind.wrap .u32 w1)))))] fun S56 =>
 some (.tup [], S56)) (
 some (.tup [], S)))))

def b83_entry (call : CallA) (n : Nat)  (l1_0_0 : Option Pos → Nat → Cap → Int → Int → AS → Option (AV × AS)) (x0a : Option Pos) (x0l : Nat) (x0c : Cap) (x1 : Int) (S : AS) : Option (AV × AS) :=
 l1_0_0 x0a x0l x0c x1 ((x0l : Nat) : Int) S

def r83_l1_0_0 (call : CallA) (n : Nat)  (m : Nat) (w0a : Option Pos) (w0l : Nat) (w0c : Cap) (w1 : Int) (w4 : Int) (S : AS) : Option (AV × AS) := loopN (evC E call n 83 (E.at 83 [1, 0, 0, 0]) 0) [0, 1, 4] m [(0, (.sl w0a w0l w0c)), (1, (.int .u64 w1)), (4, (.int .i64 w4))] S (kBlk 0 (kSeq E call n 83 (E.at 83 [1, 1]) 0 (retK E (E.fn 83))))
theorem a83_l1_0_0 (call : CallA) (n : Nat)  (m : Nat) (w0a : Option Pos) (w0l : Nat) (w0c : Cap) (w1 : Int) (w4 : Int) (S : AS) : r83_l1_0_0 call n  (m + 1) w0a w0l w0c w1 w4 S = b83_l1_0_0 call n (r83_l1_0_0 call n  m) w0a w0l w0c w1 w4 S := by kernel_rfl
theorem a83_entry (call : CallA) (n : Nat) (x0a : Option Pos) (x0l : Nat) (x0c : Cap) (x1 : Int) (S : AS) : evC E call n 83 (E.at 83 []) 0 (enumT 0 [(.sl x0a x0l x0c), (.int .u64 x1)]) S (retK E (E.fn 83)) = b83_entry call n (r83_l1_0_0 call n  n) x0a x0l x0c x1 S := by kernel_rfl
def J83_l1_0_0 (call : CallA) (n : Nat)  (m : Nat) : Option Pos → Nat → Cap → Int → Int → AS → Option (AV × AS) := Nat.rec (motive := fun _ => Option Pos → Nat → Cap → Int → Int → AS → Option (AV × AS)) (fun _ _ _ _ _ _ => none) (fun mK ih w0a w0l w0c w1 w4 S => b83_l1_0_0 call n ih w0a w0l w0c w1 w4 S) m
theorem J83_l1_0_0_succ (call : CallA) (n : Nat)  (m : Nat) (w0a : Option Pos) (w0l : Nat) (w0c : Cap) (w1 : Int) (w4 : Int) (S : AS) : J83_l1_0_0 call n  (m + 1) w0a w0l w0c w1 w4 S = b83_l1_0_0 call n (J83_l1_0_0 call n  m) w0a w0l w0c w1 w4 S := rfl
theorem h83_l1_0_0 (call : CallA) (n : Nat)  (m : Nat) : r83_l1_0_0 call n  m = J83_l1_0_0 call n  m := by
  induction m with
  | zero => rfl
  | succ m ih =>
    funext w0a w0l w0c w1 w4 S
    rw [J83_l1_0_0_succ, a83_l1_0_0, ih]
def J83 (call : CallA) (n : Nat) (x0a : Option Pos) (x0l : Nat) (x0c : Cap) (x1 : Int) (S : AS) : Option (AV × AS) := b83_entry call n (J83_l1_0_0 call n  n) x0a x0l x0c x1 S
theorem run83 (o : Orc) (n : Nat) (args : List AV) (S : AS) (ho : o 83 args = none) : evF E o (n + 1) (.fn 83) args S = evC E (evF E o n) n 83 (E.at 83 []) 0 (enumT 0 args) S (retK E (E.fn 83)) := by
  rw [evF, ho]; kernel_rfl
theorem J83_eq (call : CallA) (n : Nat) (x0a : Option Pos) (x0l : Nat) (x0c : Cap) (x1 : Int) (S : AS) : evC E call n 83 (E.at 83 []) 0 (enumT 0 [(.sl x0a x0l x0c), (.int .u64 x1)]) S (retK E (E.fn 83)) = J83 call n x0a x0l x0c x1 S := by
  rw [J83, a83_entry, h83_l1_0_0 call n  n]
theorem F83 {o : Orc} (n : Nat) (x0a : Option Pos) (x0l : Nat) (x0c : Cap) (x1 : Int) (S : AS) (ho : ∀ args, o 83 args = none) : evF E o (n + 1) (.fn 83) [(.sl x0a x0l x0c), (.int .u64 x1)] S = J83 (evF E o n) n x0a x0l x0c x1 S := (run83 o n [(.sl x0a x0l x0c), (.int .u64 x1)] S (ho _)).trans (J83_eq _ _ x0a x0l x0c x1 S)
def b86_entry (call : CallA) (n : Nat)   (x0 : List UInt8) (S : AS) : Option (AV × AS) :=
 newA S (.cells [(.str x0)]) fun b1 S2 =>
 some ((.iface 152 (.ptr (some ((.rw b1), 0)))), S2)

theorem a86_entry (call : CallA) (n : Nat) (x0 : List UInt8) (S : AS) : evC E call n 86 (E.at 86 []) 0 (enumT 0 [(.str x0)]) S (retK E (E.fn 86)) = b86_entry call n  x0 S := by kernel_rfl
def J86 (call : CallA) (n : Nat) (x0 : List UInt8) (S : AS) : Option (AV × AS) := b86_entry call n  x0 S
theorem run86 (o : Orc) (n : Nat) (args : List AV) (S : AS) (ho : o 86 args = none) : evF E o (n + 1) (.fn 86) args S = evC E (evF E o n) n 86 (E.at 86 []) 0 (enumT 0 args) S (retK E (E.fn 86)) := by
  rw [evF, ho]; kernel_rfl
theorem J86_eq (call : CallA) (n : Nat) (x0 : List UInt8) (S : AS) : evC E call n 86 (E.at 86 []) 0 (enumT 0 [(.str x0)]) S (retK E (E.fn 86)) = J86 call n x0 S := by
  rw [J86, a86_entry]
theorem F86 {o : Orc} (n : Nat) (x0 : List UInt8) (S : AS) (ho : ∀ args, o 86 args = none) : evF E o (n + 1) (.fn 86) [(.str x0)] S = J86 (evF E o n) n x0 S := (run86 o n [(.str x0)] S (ho _)).trans (J86_eq _ _ x0 S)
def b87_entry (call : CallA) (n : Nat)   (x0 : Int) (S : AS) : Option (AV × AS) :=
 callS call 98 [(.int .i64 x0)] S fun v2 S1 =>
 some ((.str v2), S1)

theorem a87_entry (call : CallA) (n : Nat) (x0 : Int) (S : AS) : evC E call n 87 (E.at 87 []) 0 (enumT 0 [(.int .i64 x0)]) S (retK E (E.fn 87)) = b87_entry call n  x0 S := by kernel_rfl
def J87 (call : CallA) (n : Nat) (x0 : Int) (S : AS) : Option (AV × AS) := b87_entry call n  x0 S
theorem run87 (o : Orc) (n : Nat) (args : List AV) (S : AS) (ho : o 87 args = none) : evF E o (n + 1) (.fn 87) args S = evC E (evF E o n) n 87 (E.at 87 []) 0 (enumT 0 args) S (retK E (E.fn 87)) := by
  rw [evF, ho]; kernel_rfl
theorem J87_eq (call : CallA) (n : Nat) (x0 : Int) (S : AS) : evC E call n 87 (E.at 87 []) 0 (enumT 0 [(.int .i64 x0)]) S (retK E (E.fn 87)) = J87 call n x0 S := by
  rw [J87, a87_entry]
theorem F87 {o : Orc} (n : Nat) (x0 : Int) (S : AS) (ho : ∀ args, o 87 args = none) : evF E o (n + 1) (.fn 87) [(.int .i64 x0)] S = J87 (evF E o n) n x0 S := (run87 o n [(.int .i64 x0)] S (ho _)).trans (J87_eq _ _ x0 S)
def b88_l1_0 (call : CallA) (n : Nat)  (l1_0 : Option Pos → Nat → Cap → Int → Int → Int → AS → Option (AV × AS)) (w0a : Option Pos) (w0l : Nat) (w0c : Cap) (w2 : Int) (w3 : Int) (w8 : Int) (S : AS) : Option (AV × AS) :=
 cond (decide ((IntKind.wrap .i64 ((IntKind.wrap .i64 (2 * w8)) + 1)) ≥ w2)) (
 some (.tup [], S)) (
 cond (decide ((IntKind.wrap .i64 ((IntKind.wrap .i64 ((IntKind.wrap .i64 (2 * w8)) + 1)) + 1)) < w2)) (
 ixSl 1 w0a w0l (IntKind.wrap .i64 (w3 + (IntKind.wrap .i64 ((IntKind.wrap .i64 (2 * w8)) + 1)))) fun p1 =>
 ldS S p1.1 p1.2 fun v2 =>
 ixSl 1 w0a w0l (IntKind.wrap .i64 ((IntKind.wrap .i64 (w3 + (IntKind.wrap .i64 ((IntKind.wrap .i64 (2 * w8)) + 1)))) + 1)) fun p3 =>
 ldS S p3.1 p3.2 fun v4 =>
 callB call 76 [(.str v2), (.str v4)] S fun v6 S5 =>
 cond v6 (
 ixSl 1 w0a w0l (IntKind.wrap .i64 (w3 + w8)) fun p7 =>
 ldS S5 p7.1 p7.2 fun v8 =>
 ixSl 1 w0a w0l (IntKind.wrap .i64 (w3 + (IntKind.wrap .i64 ((IntKind.wrap .i64 ((IntKind.wrap .i64 (2 * w8)) + 1)) + 1)))) fun p9 =>
 ldS S5 p9.1 p9.2 fun v10 =>
 callB call 76 [(.str v8), (.str v10)] S5 fun v12 S11 =>
 cond (!v12) (
 some (.tup [], S11)) (
 ixSl 1 w0a w0l (IntKind.wrap .i64 (w3 + (IntKind.wrap .i64 ((IntKind.wrap .i64 ((IntKind.wrap .i64 (2 * w8)) + 1)) + 1)))) fun p13 =>
 ldS S11 p13.1 p13.2 fun v14 =>
 ixSl 1 w0a w0l (IntKind.wrap .i64 (w3 + w8)) fun p15 =>
 ldS S11 p15.1 p15.2 fun v16 =>
 ixSl 1 w0a w0l (IntKind.wrap .i64 (w3 + w8)) fun p17 =>
 S11.stn p17.1 p17.2 [(.str v14)] fun S18 =>
 ixSl 1 w0a w0l (IntKind.wrap .i64 (w3 + (IntKind.wrap .i64 ((IntKind.wrap .i64 ((IntKind.wrap .i64 (2 * w8)) + 1)) + 1)))) fun p19 =>
 S18.stn p19.1 p19.2 [(.str v16)] fun S20 =>
 l1_0 w0a w0l w0c w2 w3 (IntKind.wrap .i64 ((IntKind.wrap .i64 ((IntKind.wrap .i64 (2 * w8)) + 1)) + 1)) S20)) (
 ixSl 1 w0a w0l (IntKind.wrap .i64 (w3 + w8)) fun p21 =>
 ldS S5 p21.1 p21.2 fun v22 =>
 ixSl 1 w0a w0l (IntKind.wrap .i64 (w3 + (IntKind.wrap .i64 ((IntKind.wrap .i64 (2 * w8)) + 1)))) fun p23 =>
 ldS S5 p23.1 p23.2 fun v24 =>
 callB call 76 [(.str v22), (.str v24)] S5 fun v26 S25 =>
 cond (!v26) (
 some (.tup [], S25)) (
 ixSl 1 w0a w0l (IntKind.wrap .i64 (w3 + (IntKind.wrap .i64 ((IntKind.wrap .i64 (2 * w8)) + 1)))) fun p27 =>
 ldS S25 p27.1 p27.2 fun v28 =>
 ixSl 1 w0a w0l (IntKind.wrap .i64 (w3 + w8)) fun p29 =>
 ldS S25 p29.1 p29.2 fun v30 =>
 ixSl 1 w0a w0l (IntKind.wrap .i64 (w3 + w8)) fun p31 =>
 S25.stn p31.1 p31.2 [(.str v28)] fun S32 =>
 ixSl 1 w0a w0l (IntKind.wrap .i64 (w3 + (IntKind.wrap .i64 ((IntKind.wrap .i64 (2 * w8)) + 1)))) fun p33 =>
 S32.stn p33.1 p33.2 [(.str v30)] fun S34 =>
 l1_0 w0a w0l w0c w2 w3 (IntKind.wrap .i64 ((IntKind.wrap .i64 (2 * w8)) + 1)) S34))) (
 ixSl 1 w0a w0l (IntKind.wrap .i64 (w3 + w8)) fun p35 =>
 ldS S p35.1 p35.2 fun v36 =>
 ixSl 1 w0a w0l (IntKind.wrap .i64 (w3 + (IntKind.wrap .i64 ((IntKind.wrap .i64 (2 * w8)) + 1)))) fun p37 =>
 ldS S p37.1 p37.2 fun v38 =>
 callB call 76 [(.str v36), (.str v38)] S fun v40 S39 =>
 cond (!v40) (
 some (.tup [], S39)) (
 ixSl 1 w0a w0l (IntKind.wrap .i64 (w3 + (IntKind.wrap .i64 ((IntKind.wrap .i64 (2 * w8)) + 1)))) fun p41 =>
 ldS S39 p41.1 p41.2 fun v42 =>
 ixSl 1 w0a w0l (IntKind.wrap .i64 (w3 + w8)) fun p43 =>
 ldS S39 p43.1 p43.2 fun v44 =>
 ixSl 1 w0a w0l (IntKind.wrap .i64 (w3 + w8)) fun p45 =>
 S39.stn p45.1 p45.2 [(.str v42)] fun S46 =>
 ixSl 1 w0a w0l (IntKind.wrap .i64 (w3 + (IntKind.wrap .i64 ((IntKind.wrap .i64 (2 * w8)) + 1)))) fun p47 =>
 S46.stn p47.1 p47.2 [(.str v44)] fun S48 =>
 l1_0 w0a w0l w0c w2 w3 (IntKind.wrap .i64 ((IntKind.wrap .i64 (2 * w8)) + 1)) S48)))

def b88_entry (call : CallA) (n : Nat)  (l1_0 : Option Pos → Nat → Cap → Int → Int → Int → AS → Option (AV × AS)) (x0a : Option Pos) (x0l : Nat) (x0c : Cap) (x1 : Int) (x2 : Int) (x3 : Int) (S : AS) : Option (AV × AS) :=
 l1_0 x0a x0l x0c x2 x3 x1 S

def r88_l1_0 (call : CallA) (n : Nat)  (m : Nat) (w0a : Option Pos) (w0l : Nat) (w0c : Cap) (w2 : Int) (w3 : Int) (w8 : Int) (S : AS) : Option (AV × AS) := loopN (evC E call n 88 (E.at 88 [1, 0, 0]) 0) [0, 2, 3, 8] m [(0, (.sl w0a w0l w0c)), (2, (.int .i64 w2)), (3, (.int .i64 w3)), (8, (.int .i64 w8))] S (kBlk 0 (retK E (E.fn 88)))
theorem a88_l1_0 (call : CallA) (n : Nat)  (m : Nat) (w0a : Option Pos) (w0l : Nat) (w0c : Cap) (w2 : Int) (w3 : Int) (w8 : Int) (S : AS) : r88_l1_0 call n  (m + 1) w0a w0l w0c w2 w3 w8 S = b88_l1_0 call n (r88_l1_0 call n  m) w0a w0l w0c w2 w3 w8 S := by kernel_rfl
theorem a88_entry (call : CallA) (n : Nat) (x0a : Option Pos) (x0l : Nat) (x0c : Cap) (x1 : Int) (x2 : Int) (x3 : Int) (S : AS) : evC E call n 88 (E.at 88 []) 0 (enumT 0 [(.sl x0a x0l x0c), (.int .i64 x1), (.int .i64 x2), (.int .i64 x3)]) S (retK E (E.fn 88)) = b88_entry call n (r88_l1_0 call n  n) x0a x0l x0c x1 x2 x3 S := by kernel_rfl
def J88_l1_0 (call : CallA) (n : Nat)  (m : Nat) : Option Pos → Nat → Cap → Int → Int → Int → AS → Option (AV × AS) := Nat.rec (motive := fun _ => Option Pos → Nat → Cap → Int → Int → Int → AS → Option (AV × AS)) (fun _ _ _ _ _ _ _ => none) (fun mK ih w0a w0l w0c w2 w3 w8 S => b88_l1_0 call n ih w0a w0l w0c w2 w3 w8 S) m
theorem J88_l1_0_succ (call : CallA) (n : Nat)  (m : Nat) (w0a : Option Pos) (w0l : Nat) (w0c : Cap) (w2 : Int) (w3 : Int) (w8 : Int) (S : AS) : J88_l1_0 call n  (m + 1) w0a w0l w0c w2 w3 w8 S = b88_l1_0 call n (J88_l1_0 call n  m) w0a w0l w0c w2 w3 w8 S := rfl
theorem h88_l1_0 (call : CallA) (n : Nat)  (m : Nat) : r88_l1_0 call n  m = J88_l1_0 call n  m := by
  induction m with
  | zero => rfl
  | succ m ih =>
    funext w0a w0l w0c w2 w3 w8 S
    rw [J88_l1_0_succ, a88_l1_0, ih]
def J88 (call : CallA) (n : Nat) (x0a : Option Pos) (x0l : Nat) (x0c : Cap) (x1 : Int) (x2 : Int) (x3 : Int) (S : AS) : Option (AV × AS) := b88_entry call n (J88_l1_0 call n  n) x0a x0l x0c x1 x2 x3 S
theorem run88 (o : Orc) (n : Nat) (args : List AV) (S : AS) (ho : o 88 args = none) : evF E o (n + 1) (.fn 88) args S = evC E (evF E o n) n 88 (E.at 88 []) 0 (enumT 0 args) S (retK E (E.fn 88)) := by
  rw [evF, ho]; kernel_rfl
theorem J88_eq (call : CallA) (n : Nat) (x0a : Option Pos) (x0l : Nat) (x0c : Cap) (x1 : Int) (x2 : Int) (x3 : Int) (S : AS) : evC E call n 88 (E.at 88 []) 0 (enumT 0 [(.sl x0a x0l x0c), (.int .i64 x1), (.int .i64 x2), (.int .i64 x3)]) S (retK E (E.fn 88)) = J88 call n x0a x0l x0c x1 x2 x3 S := by
  rw [J88, a88_entry, h88_l1_0 call n  n]
theorem F88 {o : Orc} (n : Nat) (x0a : Option Pos) (x0l : Nat) (x0c : Cap) (x1 : Int) (x2 : Int) (x3 : Int) (S : AS) (ho : ∀ args, o 88 args = none) : evF E o (n + 1) (.fn 88) [(.sl x0a x0l x0c), (.int .i64 x1), (.int .i64 x2), (.int .i64 x3)] S = J88 (evF E o n) n x0a x0l x0c x1 x2 x3 S := (run88 o n [(.sl x0a x0l x0c), (.int .i64 x1), (.int .i64 x2), (.int .i64 x3)] S (ho _)).trans (J88_eq _ _ x0a x0l x0c x1 x2 x3 S)
def b89_entry (call : CallA) (n : Nat)   (x0 : Int) (S : AS) : Option (AV × AS) :=
 callI .i64 call 59 [(.int .u64 (IntKind.wrap .u64 x0))] S fun v2 S1 =>
 nneg v2 <|
 some ((.int .u64 (shlI .u64 1 v2)), S1)

theorem a89_entry (call : CallA) (n : Nat) (x0 : Int) (S : AS) : evC E call n 89 (E.at 89 []) 0 (enumT 0 [(.int .i64 x0)]) S (retK E (E.fn 89)) = b89_entry call n  x0 S := by kernel_rfl
def J89 (call : CallA) (n : Nat) (x0 : Int) (S : AS) : Option (AV × AS) := b89_entry call n  x0 S
theorem run89 (o : Orc) (n : Nat) (args : List AV) (S : AS) (ho : o 89 args = none) : evF E o (n + 1) (.fn 89) args S = evC E (evF E o n) n 89 (E.at 89 []) 0 (enumT 0 args) S (retK E (E.fn 89)) := by
  rw [evF, ho]; kernel_rfl
theorem J89_eq (call : CallA) (n : Nat) (x0 : Int) (S : AS) : evC E call n 89 (E.at 89 []) 0 (enumT 0 [(.int .i64 x0)]) S (retK E (E.fn 89)) = J89 call n x0 S := by
  rw [J89, a89_entry]
theorem F89 {o : Orc} (n : Nat) (x0 : Int) (S : AS) (ho : ∀ args, o 89 args = none) : evF E o (n + 1) (.fn 89) [(.int .i64 x0)] S = J89 (evF E o n) n x0 S := (run89 o n [(.int .i64 x0)] S (ho _)).trans (J89_eq _ _ x0 S)
def b90_entry (call : CallA) (n : Nat)   (x0 : Option Pos) (S : AS) : Option (AV × AS) :=
 gO x0 fun p1 =>
 ldI .u64 S p1.1 p1.2 fun v2 =>
 gO x0 fun p3 =>
 ldI .u64 S p3.1 p3.2 fun v4 =>
 gO x0 fun p5 =>
 S.stn p5.1 p5.2 [(.int .u64 (xorI .u64 v2 (shlI .u64 v4 13)))] fun S6 =>
 gO x0 fun p7 =>
 ldI .u64 S6 p7.1 p7.2 fun v8 =>
 gO x0 fun p9 =>
 ldI .u64 S6 p9.1 p9.2 fun v10 =>
 gO x0 fun p11 =>
 S6.stn p11.1 p11.2 [(.int .u64 (xorI .u64 v8 (shrI .u64 v10 7)))] fun S12 =>
 gO x0 fun p13 =>
 ldI .u64 S12 p13.1 p13.2 fun v14 =>
 gO x0 fun p15 =>
 ldI .u64 S12 p15.1 p15.2 fun v16 =>
 gO x0 fun p17 =>
 S12.stn p17.1 p17.2 [(.int .u64 (xorI .u64 v14 (shlI .u64 v16 17)))] fun S18 =>
 gO x0 fun p19 =>
 ldI .u64 S18 p19.1 p19.2 fun v20 =>
 some ((.int .u64 v20), S18)

theorem a90_entry (call : CallA) (n : Nat) (x0 : Option Pos) (S : AS) : evC E call n 90 (E.at 90 []) 0 (enumT 0 [(.ptr x0)]) S (retK E (E.fn 90)) = b90_entry call n  x0 S := by kernel_rfl
def J90 (call : CallA) (n : Nat) (x0 : Option Pos) (S : AS) : Option (AV × AS) := b90_entry call n  x0 S
theorem run90 (o : Orc) (n : Nat) (args : List AV) (S : AS) (ho : o 90 args = none) : evF E o (n + 1) (.fn 90) args S = evC E (evF E o n) n 90 (E.at 90 []) 0 (enumT 0 args) S (retK E (E.fn 90)) := by
  rw [evF, ho]; kernel_rfl
theorem J90_eq (call : CallA) (n : Nat) (x0 : Option Pos) (S : AS) : evC E call n 90 (E.at 90 []) 0 (enumT 0 [(.ptr x0)]) S (retK E (E.fn 90)) = J90 call n x0 S := by
  rw [J90, a90_entry]
theorem F90 {o : Orc} (n : Nat) (x0 : Option Pos) (S : AS) (ho : ∀ args, o 90 args = none) : evF E o (n + 1) (.fn 90) [(.ptr x0)] S = J90 (evF E o n) n x0 S := (run90 o n [(.ptr x0)] S (ho _)).trans (J90_eq _ _ x0 S)
def b91_entry (call : CallA) (n : Nat)   (x0a : Option Pos) (x0l : Nat) (x0c : Cap) (x1 : Int) (x2 : Option Pos) (S : AS) : Option (AV × AS) :=
 callI .i64 call 92 [(.sl x0a x0l x0c), (.int .i64 (IntKind.wrap .i64 (x1 - 1))), (.int .i64 x1), (.int .i64 (IntKind.wrap .i64 (x1 + 1))), (.ptr x2)] S fun v2 S1 =>
 some ((.int .i64 v2), S1)

theorem a91_entry (call : CallA) (n : Nat) (x0a : Option Pos) (x0l : Nat) (x0c : Cap) (x1 : Int) (x2 : Option Pos) (S : AS) : evC E call n 91 (E.at 91 []) 0 (enumT 0 [(.sl x0a x0l x0c), (.int .i64 x1), (.ptr x2)]) S (retK E (E.fn 91)) = b91_entry call n  x0a x0l x0c x1 x2 S := by kernel_rfl
def J91 (call : CallA) (n : Nat) (x0a : Option Pos) (x0l : Nat) (x0c : Cap) (x1 : Int) (x2 : Option Pos) (S : AS) : Option (AV × AS) := b91_entry call n  x0a x0l x0c x1 x2 S
theorem run91 (o : Orc) (n : Nat) (args : List AV) (S : AS) (ho : o 91 args = none) : evF E o (n + 1) (.fn 91) args S = evC E (evF E o n) n 91 (E.at 91 []) 0 (enumT 0 args) S (retK E (E.fn 91)) := by
  rw [evF, ho]; kernel_rfl
theorem J91_eq (call : CallA) (n : Nat) (x0a : Option Pos) (x0l : Nat) (x0c : Cap) (x1 : Int) (x2 : Option Pos) (S : AS) : evC E call n 91 (E.at 91 []) 0 (enumT 0 [(.sl x0a x0l x0c), (.int .i64 x1), (.ptr x2)]) S (retK E (E.fn 91)) = J91 call n x0a x0l x0c x1 x2 S := by
  rw [J91, a91_entry]
theorem F91 {o : Orc} (n : Nat) (x0a : Option Pos) (x0l : Nat) (x0c : Cap) (x1 : Int) (x2 : Option Pos) (S : AS) (ho : ∀ args, o 91 args = none) : evF E o (n + 1) (.fn 91) [(.sl x0a x0l x0c), (.int .i64 x1), (.ptr x2)] S = J91 (evF E o n) n x0a x0l x0c x1 x2 S := (run91 o n [(.sl x0a x0l x0c), (.int .i64 x1), (.ptr x2)] S (ho _)).trans (J91_eq _ _ x0a x0l x0c x1 x2 S)
def b92_entry (call : CallA) (n : Nat)   (x0a : Option Pos) (x0l : Nat) (x0c : Cap) (x1 : Int) (x2 : Int) (x3 : Int) (x4 : Option Pos) (S : AS) : Option (AV × AS) :=
 callT call 99 [(.sl x0a x0l x0c), (.int .i64 x1), (.int .i64 x2), (.ptr x4)] S fun v2 S1 =>
 atI .i64 v2 0 fun v3 =>
 atI .i64 v2 1 fun v4 =>
 callT call 99 [(.sl x0a x0l x0c), (.int .i64 v4), (.int .i64 x3), (.ptr x4)] S1 fun v6 S5 =>
 atI .i64 v6 0 fun v7 =>
 atI .i64 v6 1 fun v8 =>
 callT call 99 [(.sl x0a x0l x0c), (.int .i64 v3), (.int .i64 v7), (.ptr x4)] S5 fun v10 S9 =>
 atI .i64 v10 0 fun v11 =>
 atI .i64 v10 1 fun v12 =>
 some ((.int .i64 v12), S9)

theorem a92_entry (call : CallA) (n : Nat) (x0a : Option Pos) (x0l : Nat) (x0c : Cap) (x1 : Int) (x2 : Int) (x3 : Int) (x4 : Option Pos) (S : AS) : evC E call n 92 (E.at 92 []) 0 (enumT 0 [(.sl x0a x0l x0c), (.int .i64 x1), (.int .i64 x2), (.int .i64 x3), (.ptr x4)]) S (retK E (E.fn 92)) = b92_entry call n  x0a x0l x0c x1 x2 x3 x4 S := by kernel_rfl
def J92 (call : CallA) (n : Nat) (x0a : Option Pos) (x0l : Nat) (x0c : Cap) (x1 : Int) (x2 : Int) (x3 : Int) (x4 : Option Pos) (S : AS) : Option (AV × AS) := b92_entry call n  x0a x0l x0c x1 x2 x3 x4 S
theorem run92 (o : Orc) (n : Nat) (args : List AV) (S : AS) (ho : o 92 args = none) : evF E o (n + 1) (.fn 92) args S = evC E (evF E o n) n 92 (E.at 92 []) 0 (enumT 0 args) S (retK E (E.fn 92)) := by
  rw [evF, ho]; kernel_rfl
theorem J92_eq (call : CallA) (n : Nat) (x0a : Option Pos) (x0l : Nat) (x0c : Cap) (x1 : Int) (x2 : Int) (x3 : Int) (x4 : Option Pos) (S : AS) : evC E call n 92 (E.at 92 []) 0 (enumT 0 [(.sl x0a x0l x0c), (.int .i64 x1), (.int .i64 x2), (.int .i64 x3), (.ptr x4)]) S (retK E (E.fn 92)) = J92 call n x0a x0l x0c x1 x2 x3 x4 S := by
  rw [J92, a92_entry]
theorem F92 {o : Orc} (n : Nat) (x0a : Option Pos) (x0l : Nat) (x0c : Cap) (x1 : Int) (x2 : Int) (x3 : Int) (x4 : Option Pos) (S : AS) (ho : ∀ args, o 92 args = none) : evF E o (n + 1) (.fn 92) [(.sl x0a x0l x0c), (.int .i64 x1), (.int .i64 x2), (.int .i64 x3), (.ptr x4)] S = J92 (evF E o n) n x0a x0l x0c x1 x2 x3 x4 S := (run92 o n [(.sl x0a x0l x0c), (.int .i64 x1), (.int .i64 x2), (.int .i64 x3), (.ptr x4)] S (ho _)).trans (J92_eq _ _ x0a x0l x0c x1 x2 x3 x4 S)
def b93_entry (call : CallA) (n : Nat)   (x0 : List UInt8) (S : AS) : Option (AV × AS) :=
 some ((.bool (!(x0 == x0))), S)

theorem a93_entry (call : CallA) (n : Nat) (x0 : List UInt8) (S : AS) : evC E call n 93 (E.at 93 []) 0 (enumT 0 [(.str x0)]) S (retK E (E.fn 93)) = b93_entry call n  x0 S := by kernel_rfl
def J93 (call : CallA) (n : Nat) (x0 : List UInt8) (S : AS) : Option (AV × AS) := b93_entry call n  x0 S
theorem run93 (o : Orc) (n : Nat) (args : List AV) (S : AS) (ho : o 93 args = none) : evF E o (n + 1) (.fn 93) args S = evC E (evF E o n) n 93 (E.at 93 []) 0 (enumT 0 args) S (retK E (E.fn 93)) := by
  rw [evF, ho]; kernel_rfl
theorem J93_eq (call : CallA) (n : Nat) (x0 : List UInt8) (S : AS) : evC E call n 93 (E.at 93 []) 0 (enumT 0 [(.str x0)]) S (retK E (E.fn 93)) = J93 call n x0 S := by
  rw [J93, a93_entry]
theorem F93 {o : Orc} (n : Nat) (x0 : List UInt8) (S : AS) (ho : ∀ args, o 93 args = none) : evF E o (n + 1) (.fn 93) [(.str x0)] S = J93 (evF E o n) n x0 S := (run93 o n [(.str x0)] S (ho _)).trans (J93_eq _ _ x0 S)
def b94_entry (call : CallA) (n : Nat)   (x0 : Int) (S : AS) : Option (AV × AS) :=
 some ((.int .i64 (shrI .i64 (IntKind.wrap .i64 (x0 * 78913)) 18)), S)

theorem a94_entry (call : CallA) (n : Nat) (x0 : Int) (S : AS) : evC E call n 94 (E.at 94 []) 0 (enumT 0 [(.int .i64 x0)]) S (retK E (E.fn 94)) = b94_entry call n  x0 S := by kernel_rfl
def J94 (call : CallA) (n : Nat) (x0 : Int) (S : AS) : Option (AV × AS) := b94_entry call n  x0 S
theorem run94 (o : Orc) (n : Nat) (args : List AV) (S : AS) (ho : o 94 args = none) : evF E o (n + 1) (.fn 94) args S = evC E (evF E o n) n 94 (E.at 94 []) 0 (enumT 0 args) S (retK E (E.fn 94)) := by
  rw [evF, ho]; kernel_rfl
theorem J94_eq (call : CallA) (n : Nat) (x0 : Int) (S : AS) : evC E call n 94 (E.at 94 []) 0 (enumT 0 [(.int .i64 x0)]) S (retK E (E.fn 94)) = J94 call n x0 S := by
  rw [J94, a94_entry]
theorem F94 {o : Orc} (n : Nat) (x0 : Int) (S : AS) (ho : ∀ args, o 94 args = none) : evF E o (n + 1) (.fn 94) [(.int .i64 x0)] S = J94 (evF E o n) n x0 S := (run94 o n [(.int .i64 x0)] S (ho _)).trans (J94_eq _ _ x0 S)
def b95_entry (call : CallA) (n : Nat)   (x0 : Bool) (S : AS) : Option (AV × AS) :=
 cond x0 (
 some ((.int .i64 1), S)) (
 some ((.int .i64 0), S))

theorem a95_entry (call : CallA) (n : Nat) (x0 : Bool) (S : AS) : evC E call n 95 (E.at 95 []) 0 (enumT 0 [(.bool x0)]) S (retK E (E.fn 95)) = b95_entry call n  x0 S := by kernel_rfl
def J95 (call : CallA) (n : Nat) (x0 : Bool) (S : AS) : Option (AV × AS) := b95_entry call n  x0 S
theorem run95 (o : Orc) (n : Nat) (args : List AV) (S : AS) (ho : o 95 args = none) : evF E o (n + 1) (.fn 95) args S = evC E (evF E o n) n 95 (E.at 95 []) 0 (enumT 0 args) S (retK E (E.fn 95)) := by
  rw [evF, ho]; kernel_rfl
theorem J95_eq (call : CallA) (n : Nat) (x0 : Bool) (S : AS) : evC E call n 95 (E.at 95 []) 0 (enumT 0 [(.bool x0)]) S (retK E (E.fn 95)) = J95 call n x0 S := by
  rw [J95, a95_entry]
theorem F95 {o : Orc} (n : Nat) (x0 : Bool) (S : AS) (ho : ∀ args, o 95 args = none) : evF E o (n + 1) (.fn 95) [(.bool x0)] S = J95 (evF E o n) n x0 S := (run95 o n [(.bool x0)] S (ho _)).trans (J95_eq _ _ x0 S)
def b96_entry (call : CallA) (n : Nat)   (x0 : Int) (S : AS) : Option (AV × AS) :=
 some ((.bool ((andI .i64 x0 (IntKind.wrap .i64 (x0 - 1))) == 0)), S)

theorem a96_entry (call : CallA) (n : Nat) (x0 : Int) (S : AS) : evC E call n 96 (E.at 96 []) 0 (enumT 0 [(.int .i64 x0)]) S (retK E (E.fn 96)) = b96_entry call n  x0 S := by kernel_rfl
def J96 (call : CallA) (n : Nat) (x0 : Int) (S : AS) : Option (AV × AS) := b96_entry call n  x0 S
theorem run96 (o : Orc) (n : Nat) (args : List AV) (S : AS) (ho : o 96 args = none) : evF E o (n + 1) (.fn 96) args S = evC E (evF E o n) n 96 (E.at 96 []) 0 (enumT 0 args) S (retK E (E.fn 96)) := by
  rw [evF, ho]; kernel_rfl
theorem J96_eq (call : CallA) (n : Nat) (x0 : Int) (S : AS) : evC E call n 96 (E.at 96 []) 0 (enumT 0 [(.int .i64 x0)]) S (retK E (E.fn 96)) = J96 call n x0 S := by
  rw [J96, a96_entry]
theorem F96 {o : Orc} (n : Nat) (x0 : Int) (S : AS) (ho : ∀ args, o 96 args = none) : evF E o (n + 1) (.fn 96) [(.int .i64 x0)] S = J96 (evF E o n) n x0 S := (run96 o n [(.int .i64 x0)] S (ho _)).trans (J96_eq _ _ x0 S)
def b97_entry (call : CallA) (n : Nat)   (x0 : Int) (S : AS) : Option (AV × AS) :=
 callI .i64 call 101 [(.int .u64 x0)] S fun v2 S1 =>
 some ((.int .i64 v2), S1)

theorem a97_entry (call : CallA) (n : Nat) (x0 : Int) (S : AS) : evC E call n 97 (E.at 97 []) 0 (enumT 0 [(.int .u64 x0)]) S (retK E (E.fn 97)) = b97_entry call n  x0 S := by kernel_rfl
def J97 (call : CallA) (n : Nat) (x0 : Int) (S : AS) : Option (AV × AS) := b97_entry call n  x0 S
theorem run97 (o : Orc) (n : Nat) (args : List AV) (S : AS) (ho : o 97 args = none) : evF E o (n + 1) (.fn 97) args S = evC E (evF E o n) n 97 (E.at 97 []) 0 (enumT 0 args) S (retK E (E.fn 97)) := by
  rw [evF, ho]; kernel_rfl
theorem J97_eq (call : CallA) (n : Nat) (x0 : Int) (S : AS) : evC E call n 97 (E.at 97 []) 0 (enumT 0 [(.int .u64 x0)]) S (retK E (E.fn 97)) = J97 call n x0 S := by
  rw [J97, a97_entry]
theorem F97 {o : Orc} (n : Nat) (x0 : Int) (S : AS) (ho : ∀ args, o 97 args = none) : evF E o (n + 1) (.fn 97) [(.int .u64 x0)] S = J97 (evF E o n) n x0 S := (run97 o n [(.int .u64 x0)] S (ho _)).trans (J97_eq _ _ x0 S)
def b98_entry (call : CallA) (n : Nat)   (x0 : Int) (S : AS) : Option (AV × AS) :=
 callS call 102 [(.int .i64 x0), (.int .i64 10)] S fun v2 S1 =>
 some ((.str v2), S1)

theorem a98_entry (call : CallA) (n : Nat) (x0 : Int) (S : AS) : evC E call n 98 (E.at 98 []) 0 (enumT 0 [(.int .i64 x0)]) S (retK E (E.fn 98)) = b98_entry call n  x0 S := by kernel_rfl
def J98 (call : CallA) (n : Nat) (x0 : Int) (S : AS) : Option (AV × AS) := b98_entry call n  x0 S
theorem run98 (o : Orc) (n : Nat) (args : List AV) (S : AS) (ho : o 98 args = none) : evF E o (n + 1) (.fn 98) args S = evC E (evF E o n) n 98 (E.at 98 []) 0 (enumT 0 args) S (retK E (E.fn 98)) := by
  rw [evF, ho]; kernel_rfl
theorem J98_eq (call : CallA) (n : Nat) (x0 : Int) (S : AS) : evC E call n 98 (E.at 98 []) 0 (enumT 0 [(.int .i64 x0)]) S (retK E (E.fn 98)) = J98 call n x0 S := by
  rw [J98, a98_entry]
theorem F98 {o : Orc} (n : Nat) (x0 : Int) (S : AS) (ho : ∀ args, o 98 args = none) : evF E o (n + 1) (.fn 98) [(.int .i64 x0)] S = J98 (evF E o n) n x0 S := (run98 o n [(.int .i64 x0)] S (ho _)).trans (J98_eq _ _ x0 S)
def b99_entry (call : CallA) (n : Nat)   (x0a : Option Pos) (x0l : Nat) (x0c : Cap) (x1 : Int) (x2 : Int) (x3 : Option Pos) (S : AS) : Option (AV × AS) :=
 ixSl 1 x0a x0l x2 fun p1 =>
 ldS S p1.1 p1.2 fun v2 =>
 ixSl 1 x0a x0l x1 fun p3 =>
 ldS S p3.1 p3.2 fun v4 =>
 callB call 76 [(.str v2), (.str v4)] S fun v6 S5 =>
 cond v6 (
 gO x3 fun p7 =>
 ldI .i64 S5 p7.1 p7.2 fun v8 =>
 gO x3 fun p9 =>
 S5.stn p9.1 p9.2 [(.int .i64 (IntKind.wrap .i64 (v8 + 1)))] fun S10 =>
 some (.tup [(.int .i64 x2), (.int .i64 x1)], S10)) (
 some (.tup [(.int .i64 x1), (.int .i64 x2)], S5))

theorem a99_entry (call : CallA) (n : Nat) (x0a : Option Pos) (x0l : Nat) (x0c : Cap) (x1 : Int) (x2 : Int) (x3 : Option Pos) (S : AS) : evC E call n 99 (E.at 99 []) 0 (enumT 0 [(.sl x0a x0l x0c), (.int .i64 x1), (.int .i64 x2), (.ptr x3)]) S (retK E (E.fn 99)) = b99_entry call n  x0a x0l x0c x1 x2 x3 S := by kernel_rfl
def J99 (call : CallA) (n : Nat) (x0a : Option Pos) (x0l : Nat) (x0c : Cap) (x1 : Int) (x2 : Int) (x3 : Option Pos) (S : AS) : Option (AV × AS) := b99_entry call n  x0a x0l x0c x1 x2 x3 S
theorem run99 (o : Orc) (n : Nat) (args : List AV) (S : AS) (ho : o 99 args = none) : evF E o (n + 1) (.fn 99) args S = evC E (evF E o n) n 99 (E.at 99 []) 0 (enumT 0 args) S (retK E (E.fn 99)) := by
  rw [evF, ho]; kernel_rfl
theorem J99_eq (call : CallA) (n : Nat) (x0a : Option Pos) (x0l : Nat) (x0c : Cap) (x1 : Int) (x2 : Int) (x3 : Option Pos) (S : AS) : evC E call n 99 (E.at 99 []) 0 (enumT 0 [(.sl x0a x0l x0c), (.int .i64 x1), (.int .i64 x2), (.ptr x3)]) S (retK E (E.fn 99)) = J99 call n x0a x0l x0c x1 x2 x3 S := by
  rw [J99, a99_entry]
theorem F99 {o : Orc} (n : Nat) (x0a : Option Pos) (x0l : Nat) (x0c : Cap) (x1 : Int) (x2 : Int) (x3 : Option Pos) (S : AS) (ho : ∀ args, o 99 args = none) : evF E o (n + 1) (.fn 99) [(.sl x0a x0l x0c), (.int .i64 x1), (.int .i64 x2), (.ptr x3)] S = J99 (evF E o n) n x0a x0l x0c x1 x2 x3 S := (run99 o n [(.sl x0a x0l x0c), (.int .i64 x1), (.int .i64 x2), (.ptr x3)] S (ho _)).trans (J99_eq _ _ x0a x0l x0c x1 x2 x3 S)
def b102_entry (call : CallA) (n : Nat)   (x0 : Int) (x1 : Int) (S : AS) : Option (AV × AS) :=
 cond (x1 == 10) (
 cond (decide (0 ≤ x0)) (
 cond (decide (x0 < 100)) (
 callS call 81 [(.int .i64 x0)] S fun v2 S1 =>
 some ((.str v2), S1)) (
 newA S (.cells [(.int .u8 0), (.int .u8 0), (.int .u8 0), (.int .u8 0), (.int .u8 0), (.int .u8 0), (.int .u8 0), (.int .u8 0), (.int .u8 0), (.int .u8 0), (.int .u8 0), (.int .u8 0), (.int .u8 0), (.int .u8 0), (.int .u8 0), (.int .u8 0), (.int .u8 0), (.int .u8 0), (.int .u8 0), (.int .u8 0), (.int .u8 0), (.int .u8 0), (.int .u8 0), (.int .u8 0)]) fun b3 S4 =>
 cond (decide (x0 < 0)) (
 callI .i64 call 82 [(.int .u64 (IntKind.wrap .u64 (0 - (IntKind.wrap .u64 x0))))] S4 fun v6 S5 =>
 slArr 1 ((.rw b3), 0) 24 (some 1) (some (IntKind.wrap .i64 (1 + v6))) none fun v7a v7l v7c =>
 callT call 83 [(.sl v7a v7l v7c), (.int .u64 (IntKind.wrap .u64 (0 - (IntKind.wrap .u64 x0))))] S5 fun v9 S8 =>
 cond (decide (x0 < 0)) (
 ixArr 1 ((.rw b3), 0) 24 0 fun p10 =>
 S8.stn p10.1 p10.2 [(.int .u8 45)] fun S11 =>
 slArr 1 ((.rw b3), 0) 24 none (some (IntKind.wrap .i64 (1 + v6))) none fun v12a v12l v12c =>
 bytesStr S11 v12a v12l fun s13 =>
 some ((.str s13), S11)) (
 slArr 1 ((.rw b3), 0) 24 (some 1) (some (IntKind.wrap .i64 (1 + v6))) none fun v14a v14l v14c =>
 bytesStr S8 v14a v14l fun s15 =>
 some ((.str s15), S8))) (
 callI .i64 call 82 [(.int .u64 (IntKind.wrap .u64 x0))] S4 fun v17 S16 =>
 slArr 1 ((.rw b3), 0) 24 (some 1) (some (IntKind.wrap .i64 (1 + v17))) none fun v18a v18l v18c =>
 callT call 83 [(.sl v18a v18l v18c), (.int .u64 (IntKind.wrap .u64 x0))] S16 fun v20 S19 =>
 cond (decide (x0 < 0)) (
 ixArr 1 ((.rw b3), 0) 24 0 fun p21 =>
 S19.stn p21.1 p21.2 [(.int .u8 45)] fun S22 =>
 slArr 1 ((.rw b3), 0) 24 none (some (IntKind.wrap .i64 (1 + v17))) none fun v23a v23l v23c =>
 bytesStr S22 v23a v23l fun s24 =>
 some ((.str s24), S22)) (
 slArr 1 ((.rw b3), 0) 24 (some 1) (some (IntKind.wrap .i64 (1 + v17))) none fun v25a v25l v25c =>
 bytesStr S19 v25a v25l fun s26 =>
 some ((.str s26), S19))))) (
 newA S (.cells [(.int .u8 0), (.int .u8 0), (.int .u8 0), (.int .u8 0), (.int .u8 0), (.int .u8 0), (.int .u8 0), (.int .u8 0), (.int .u8 0), (.int .u8 0), (.int .u8 0), (.int .u8 0), (.int .u8 0), (.int .u8 0), (.int .u8 0), (.int .u8 0), (.int .u8 0), (.int .u8 0), (.int .u8 0), (.int .u8 0), (.int .u8 0), (.int .u8 0), (.int .u8 0), (.int .u8 0)]) fun b27 S28 =>
 cond (decide (x0 < 0)) (
 callI .i64 call 82 [(.int .u64 (IntKind.wrap .u64 (0 - (IntKind.wrap .u64 x0))))] S28 fun v30 S29 =>
 slArr 1 ((.rw b27), 0) 24 (some 1) (some (IntKind.wrap .i64 (1 + v30))) none fun v31a v31l v31c =>
 callT call 83 [(.sl v31a v31l v31c), (.int .u64 (IntKind.wrap .u64 (0 - (IntKind.wrap .u64 x0))))] S29 fun v33 S32 =>
 cond (decide (x0 < 0)) (
 ixArr 1 ((.rw b27), 0) 24 0 fun p34 =>
 S32.stn p34.1 p34.2 [(.int .u8 45)] fun S35 =>
 slArr 1 ((.rw b27), 0) 24 none (some (IntKind.wrap .i64 (1 + v30))) none fun v36a v36l v36c =>
 bytesStr S35 v36a v36l fun s37 =>
 some ((.str s37), S35)) (
 slArr 1 ((.rw b27), 0) 24 (some 1) (some (IntKind.wrap .i64 (1 + v30))) none fun v38a v38l v38c =>
 bytesStr S32 v38a v38l fun s39 =>
 some ((.str s39), S32))) (
 callI .i64 call 82 [(.int .u64 (IntKind.wrap .u64 x0))] S28 fun v41 S40 =>
 slArr 1 ((.rw b27), 0) 24 (some 1) (some (IntKind.wrap .i64 (1 + v41))) none fun v42a v42l v42c =>
 callT call 83 [(.sl v42a v42l v42c), (.int .u64 (IntKind.wrap .u64 x0))] S40 fun v44 S43 =>
 cond (decide (x0 < 0)) (
 ixArr 1 ((.rw b27), 0) 24 0 fun p45 =>
 S43.stn p45.1 p45.2 [(.int .u8 45)] fun S46 =>
 slArr 1 ((.rw b27), 0) 24 none (some (IntKind.wrap .i64 (1 + v41))) none fun v47a v47l v47c =>
 bytesStr S46 v47a v47l fun s48 =>
 some ((.str s48), S46)) (
 slArr 1 ((.rw b27), 0) 24 (some 1) (some (IntKind.wrap .i64 (1 + v41))) none fun v49a v49l v49c =>
 bytesStr S43 v49a v49l fun s50 =>
 some ((.str s50), S43))))) (
 callT call 84 [(.sl none 0 (.ex 0)), (.int .u64 (IntKind.wrap .u64 x0)), (.int .i64 x1), (.bool (decide (x0 < 0))), (.bool false)] S fun v52 S51 =>
 atL v52 0 fun v53a v53l v53c =>
 atS v52 1 fun v54 =>
 some ((.str v54), S51))

theorem a102_entry (call : CallA) (n : Nat) (x0 : Int) (x1 : Int) (S : AS) : evC E call n 102 (E.at 102 []) 0 (enumT 0 [(.int .i64 x0), (.int .i64 x1)]) S (retK E (E.fn 102)) = b102_entry call n  x0 x1 S := by kernel_rfl
def J102 (call : CallA) (n : Nat) (x0 : Int) (x1 : Int) (S : AS) : Option (AV × AS) := b102_entry call n  x0 x1 S
theorem run102 (o : Orc) (n : Nat) (args : List AV) (S : AS) (ho : o 102 args = none) : evF E o (n + 1) (.fn 102) args S = evC E (evF E o n) n 102 (E.at 102 []) 0 (enumT 0 args) S (retK E (E.fn 102)) := by
  rw [evF, ho]; kernel_rfl
theorem J102_eq (call : CallA) (n : Nat) (x0 : Int) (x1 : Int) (S : AS) : evC E call n 102 (E.at 102 []) 0 (enumT 0 [(.int .i64 x0), (.int .i64 x1)]) S (retK E (E.fn 102)) = J102 call n x0 x1 S := by
  rw [J102, a102_entry]
theorem F102 {o : Orc} (n : Nat) (x0 : Int) (x1 : Int) (S : AS) (ho : ∀ args, o 102 args = none) : evF E o (n + 1) (.fn 102) [(.int .i64 x0), (.int .i64 x1)] S = J102 (evF E o n) n x0 x1 S := (run102 o n [(.int .i64 x0), (.int .i64 x1)] S (ho _)).trans (J102_eq _ _ x0 x1 S)
end
end Go.Ct
