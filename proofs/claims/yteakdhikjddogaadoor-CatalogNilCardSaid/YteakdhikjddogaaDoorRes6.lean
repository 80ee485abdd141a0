/- Plain readings of the functions, and that they are what the evaluator does: by program. -/
import Derived.Test.YteakdhikjddogaaDoorGrRes
import Derived.Test.YteakdhikjddogaaDoorENV
import Derived.KernelRfl
set_option maxRecDepth 100000
set_option linter.unusedVariables false
namespace Go.Ct
open Go.Gr
noncomputable section
def b75_l1_1_0_1_0 (call : CallA) (n : Nat)  (l1_1_0_1_0_0_1_0_0_0_0 : Option Pos → Nat → Cap → Int → Int → Int → Int → AS → Option (AV × AS)) (w0a : Option Pos) (w0l : Nat) (w0c : Cap) (w1 : Int) (w2 : Int) (w6 : AV) (w7 : Int) (w8 : Int) (S : AS) : Option (AV × AS) :=
 cond (decide (w8 < 5)) (
 l1_1_0_1_0_0_1_0_0_0_0 w0a w0l w0c w1 w2 w7 w8 S) (
 some ((.bool false), S))

def b75_l1_1_0_1_0_0_1_0_0_0_0 (call : CallA) (n : Nat)  (l1_1_0_1_0_0_1_0_0_0_0 : Option Pos → Nat → Cap → Int → Int → Int → Int → AS → Option (AV × AS)) (j1_1_0_1_0_0_1_0_0_1 : Option Pos → Nat → Cap → Int → Int → Int → Int → AS → Option (AV × AS)) (w0a : Option Pos) (w0l : Nat) (w0c : Cap) (w1 : Int) (w2 : Int) (w7 : Int) (w8 : Int) (S : AS) : Option (AV × AS) :=
 cond (decide (w7 < w2)) (
 ixSl 1 w0a w0l w7 fun p1 =>
 ldS S p1.1 p1.2 fun v2 =>
 ixSl 1 w0a w0l (IntKind.wrap .i64 (w7 - 1)) fun p3 =>
 ldS S p3.1 p3.2 fun v4 =>
 callB call 76 [(.str v2), (.str v4)] S fun v6 S5 =>
 cond (!v6) (
 l1_1_0_1_0_0_1_0_0_0_0 w0a w0l w0c w1 w2 (IntKind.wrap .i64 (w7 + 1)) w8 S5) (
 j1_1_0_1_0_0_1_0_0_1 w0a w0l w0c w1 w2 w7 w8 S5)) (
 j1_1_0_1_0_0_1_0_0_1 w0a w0l w0c w1 w2 w7 w8 S)

def b75_j1_1_0_1_0_0_1_0_0_1 (call : CallA) (n : Nat)  (l1_1_0_1_0_0_1_0_0_1_1_1_1_0_1_0_1_0 : Option Pos → Nat → Cap → Int → Int → Int → Int → Int → AS → Option (AV × AS)) (j1_1_0_1_0_0_1_0_0_1_1_1_1_1 : Option Pos → Nat → Cap → Int → Int → Int → Int → AS → Option (AV × AS)) (w0a : Option Pos) (w0l : Nat) (w0c : Cap) (w1 : Int) (w2 : Int) (w7 : Int) (w8 : Int) (S : AS) : Option (AV × AS) :=
 cond (w7 == w2) (
 some ((.bool true), S)) (
 cond (decide ((IntKind.wrap .i64 (w2 - w1)) < 50)) (
 some ((.bool false), S)) (
 ixSl 1 w0a w0l (IntKind.wrap .i64 (w7 - 1)) fun p7 =>
 ldS S p7.1 p7.2 fun v8 =>
 ixSl 1 w0a w0l w7 fun p9 =>
 ldS S p9.1 p9.2 fun v10 =>
 ixSl 1 w0a w0l w7 fun p11 =>
 S.stn p11.1 p11.2 [(.str v8)] fun S12 =>
 ixSl 1 w0a w0l (IntKind.wrap .i64 (w7 - 1)) fun p13 =>
 S12.stn p13.1 p13.2 [(.str v10)] fun S14 =>
 cond (decide ((IntKind.wrap .i64 (w7 - w1)) ≥ 2)) (
 l1_1_0_1_0_0_1_0_0_1_1_1_1_0_1_0_1_0 w0a w0l w0c w1 w2 w7 w8 (IntKind.wrap .i64 (w7 - 1)) S14) (
 j1_1_0_1_0_0_1_0_0_1_1_1_1_1 w0a w0l w0c w1 w2 w7 w8 S14)))

def b75_l1_1_0_1_0_0_1_0_0_1_1_1_1_0_1_0_1_0 (call : CallA) (n : Nat)  (j1_1_0_1_0_0_1_0_0_1_1_1_1_1 : Option Pos → Nat → Cap → Int → Int → Int → Int → AS → Option (AV × AS)) (l1_1_0_1_0_0_1_0_0_1_1_1_1_0_1_0_1_0 : Option Pos → Nat → Cap → Int → Int → Int → Int → Int → AS → Option (AV × AS)) (w0a : Option Pos) (w0l : Nat) (w0c : Cap) (w1 : Int) (w2 : Int) (w7 : Int) (w8 : Int) (w9 : Int) (S : AS) : Option (AV × AS) :=
 cond (decide (w9 ≥ 1)) (
 ixSl 1 w0a w0l w9 fun p15 =>
 ldS S p15.1 p15.2 fun v16 =>
 ixSl 1 w0a w0l (IntKind.wrap .i64 (w9 - 1)) fun p17 =>
 ldS S p17.1 p17.2 fun v18 =>
 callB call 76 [(.str v16), (.str v18)] S fun v20 S19 =>
 cond (!v20) (
 j1_1_0_1_0_0_1_0_0_1_1_1_1_1 w0a w0l w0c w1 w2 w7 w8 S19) (
 ixSl 1 w0a w0l (IntKind.wrap .i64 (w9 - 1)) fun p21 =>
 ldS S19 p21.1 p21.2 fun v22 =>
 ixSl 1 w0a w0l w9 fun p23 =>
 ldS S19 p23.1 p23.2 fun v24 =>
 ixSl 1 w0a w0l w9 fun p25 =>
 S19.stn p25.1 p25.2 [(.str v22)] fun S26 =>
 ixSl 1 w0a w0l (IntKind.wrap .i64 (w9 - 1)) fun p27 =>
 S26.stn p27.1 p27.2 [(.str v24)] fun S28 =>
 l1_1_0_1_0_0_1_0_0_1_1_1_1_0_1_0_1_0 w0a w0l w0c w1 w2 w7 w8 (IntKind.wrap .i64 (w9 - 1)) S28)) (
 j1_1_0_1_0_0_1_0_0_1_1_1_1_1 w0a w0l w0c w1 w2 w7 w8 S)

def b75_j1_1_0_1_0_0_1_0_0_1_1_1_1_1 (call : CallA) (n : Nat)  (l1_1_0_1_0_0_1_0_0_1_1_1_1_1_1_0_1_0 : Option Pos → Nat → Cap → Int → Int → Int → Int → Int → AS → Option (AV × AS)) (j1_1_0_1_0_0_1_1 : Option Pos → Nat → Cap → Int → Int → Int → Int → AS → Option (AV × AS)) (w0a : Option Pos) (w0l : Nat) (w0c : Cap) (w1 : Int) (w2 : Int) (w7 : Int) (w8 : Int) (S : AS) : Option (AV × AS) :=
 cond (decide ((IntKind.wrap .i64 (w2 - w7)) ≥ 2)) (
 l1_1_0_1_0_0_1_0_0_1_1_1_1_1_1_0_1_0 w0a w0l w0c w1 w2 w7 w8 (IntKind.wrap .i64 (w7 + 1)) S) (
 j1_1_0_1_0_0_1_1 w0a w0l w0c w1 w2 w7 w8 S)

def b75_l1_1_0_1_0_0_1_0_0_1_1_1_1_1_1_0_1_0 (call : CallA) (n : Nat)  (j1_1_0_1_0_0_1_1 : Option Pos → Nat → Cap → Int → Int → Int → Int → AS → Option (AV × AS)) (l1_1_0_1_0_0_1_0_0_1_1_1_1_1_1_0_1_0 : Option Pos → Nat → Cap → Int → Int → Int → Int → Int → AS → Option (AV × AS)) (w0a : Option Pos) (w0l : Nat) (w0c : Cap) (w1 : Int) (w2 : Int) (w7 : Int) (w8 : Int) (w10 : Int) (S : AS) : Option (AV × AS) :=
 cond (decide (w10 < w2)) (
 ixSl 1 w0a w0l w10 fun p29 =>
 ldS S p29.1 p29.2 fun v30 =>
 ixSl 1 w0a w0l (IntKind.wrap .i64 (w10 - 1)) fun p31 =>
 ldS S p31.1 p31.2 fun v32 =>
 callB call 76 [(.str v30), (.str v32)] S fun v34 S33 =>
 cond (!v34) (
 j1_1_0_1_0_0_1_1 w0a w0l w0c w1 w2 w7 w8 S33) (
 ixSl 1 w0a w0l (IntKind.wrap .i64 (w10 - 1)) fun p35 =>
 ldS S33 p35.1 p35.2 fun v36 =>
 ixSl 1 w0a w0l w10 fun p37 =>
 ldS S33 p37.1 p37.2 fun v38 =>
 ixSl 1 w0a w0l w10 fun p39 =>
 S33.stn p39.1 p39.2 [(.str v36)] fun S40 =>
 ixSl 1 w0a w0l (IntKind.wrap .i64 (w10 - 1)) fun p41 =>
 S40.stn p41.1 p41.2 [(.str v38)] fun S42 =>
 l1_1_0_1_0_0_1_0_0_1_1_1_1_1_1_0_1_0 w0a w0l w0c w1 w2 w7 w8 (IntKind.wrap .i64 (w10 + 1)) S42)) (
 j1_1_0_1_0_0_1_1 w0a w0l w0c w1 w2 w7 w8 S)

def b75_j1_1_0_1_0_0_1_1 (call : CallA) (n : Nat)  (l1_1_0_1_0 : Option Pos → Nat → Cap → Int → Int → AV → Int → Int → AS → Option (AV × AS)) (w0a : Option Pos) (w0l : Nat) (w0c : Cap) (w1 : Int) (w2 : Int) (w7 : Int) (w8 : Int) (S : AS) : Option (AV × AS) :=
 l1_1_0_1_0 w0a w0l w0c w1 w2 .undef w7 (IntKind.wrap .i64 (w8 + 1)) S

def b75_entry (call : CallA) (n : Nat)  (l1_1_0_1_0 : Option Pos → Nat → Cap → Int → Int → AV → Int → Int → AS → Option (AV × AS)) (x0a : Option Pos) (x0l : Nat) (x0c : Cap) (x1 : Int) (x2 : Int) (S : AS) : Option (AV × AS) :=
 l1_1_0_1_0 x0a x0l x0c x1 x2 (.bool false) (IntKind.wrap .i64 (x1 + 1)) 0 S

def r75_l1_1_0_1_0 (call : CallA) (n : Nat)  (m : Nat) (w0a : Option Pos) (w0l : Nat) (w0c : Cap) (w1 : Int) (w2 : Int) (w6 : AV) (w7 : Int) (w8 : Int) (S : AS) : Option (AV × AS) := loopN (evC E call n 75 (E.at 75 [1, 1, 0, 1, 0, 0]) 0) [0, 1, 2, 6, 7, 8] m [(0, (.sl w0a w0l w0c)), (1, (.int .i64 w1)), (2, (.int .i64 w2)), (6, w6), (7, (.int .i64 w7)), (8, (.int .i64 w8))] S (kBlk 0 (kSeq E call n 75 (E.at 75 [1, 1, 1]) 0 (retK E (E.fn 75))))
def r75_l1_1_0_1_0_0_1_0_0_0_0 (call : CallA) (n : Nat) (m1_1_0_1_0 : Nat) (m : Nat) (w0a : Option Pos) (w0l : Nat) (w0c : Cap) (w1 : Int) (w2 : Int) (w7 : Int) (w8 : Int) (S : AS) : Option (AV × AS) := loopN (evC E call n 75 (E.at 75 [1, 1, 0, 1, 0, 0, 1, 0, 0, 0, 0, 0]) 2) [0, 1, 2, 7, 8] m [(0, (.sl w0a w0l w0c)), (1, (.int .i64 w1)), (2, (.int .i64 w2)), (7, (.int .i64 w7)), (8, (.int .i64 w8))] S (kBlk 2 (kSeq E call n 75 (E.at 75 [1, 1, 0, 1, 0, 0, 1, 0, 0, 1]) 1 (kBlk 1 (kSeq E call n 75 (E.at 75 [1, 1, 0, 1, 0, 0, 1, 1]) 0 (kLp (evC E call n 75 (E.at 75 [1, 1, 0, 1, 0, 0]) 0) [0, 1, 2, 6, 7, 8] m1_1_0_1_0 (kBlk 0 (kSeq E call n 75 (E.at 75 [1, 1, 1]) 0 (retK E (E.fn 75)))))))))
def r75_j1_1_0_1_0_0_1_0_0_1 (call : CallA) (n : Nat) (m1_1_0_1_0 : Nat) (w0a : Option Pos) (w0l : Nat) (w0c : Cap) (w1 : Int) (w2 : Int) (w7 : Int) (w8 : Int) (S : AS) : Option (AV × AS) := evC E call n 75 (E.at 75 [1, 1, 0, 1, 0, 0, 1, 0, 0, 1]) 1 [(0, (.sl w0a w0l w0c)), (1, (.int .i64 w1)), (2, (.int .i64 w2)), (7, (.int .i64 w7)), (8, (.int .i64 w8))] S (kBlk 1 (kSeq E call n 75 (E.at 75 [1, 1, 0, 1, 0, 0, 1, 1]) 0 (kLp (evC E call n 75 (E.at 75 [1, 1, 0, 1, 0, 0]) 0) [0, 1, 2, 6, 7, 8] m1_1_0_1_0 (kBlk 0 (kSeq E call n 75 (E.at 75 [1, 1, 1]) 0 (retK E (E.fn 75)))))))
def r75_l1_1_0_1_0_0_1_0_0_1_1_1_1_0_1_0_1_0 (call : CallA) (n : Nat) (m1_1_0_1_0 : Nat) (m : Nat) (w0a : Option Pos) (w0l : Nat) (w0c : Cap) (w1 : Int) (w2 : Int) (w7 : Int) (w8 : Int) (w9 : Int) (S : AS) : Option (AV × AS) := loopN (evC E call n 75 (E.at 75 [1, 1, 0, 1, 0, 0, 1, 0, 0, 1, 1, 1, 1, 0, 1, 0, 1, 0, 0]) 4) [0, 1, 2, 7, 8, 9] m [(0, (.sl w0a w0l w0c)), (1, (.int .i64 w1)), (2, (.int .i64 w2)), (7, (.int .i64 w7)), (8, (.int .i64 w8)), (9, (.int .i64 w9))] S (kBlk 4 (kSeq E call n 75 (E.at 75 [1, 1, 0, 1, 0, 0, 1, 0, 0, 1, 1, 1, 1, 1]) 1 (kBlk 1 (kSeq E call n 75 (E.at 75 [1, 1, 0, 1, 0, 0, 1, 1]) 0 (kLp (evC E call n 75 (E.at 75 [1, 1, 0, 1, 0, 0]) 0) [0, 1, 2, 6, 7, 8] m1_1_0_1_0 (kBlk 0 (kSeq E call n 75 (E.at 75 [1, 1, 1]) 0 (retK E (E.fn 75)))))))))
def r75_j1_1_0_1_0_0_1_0_0_1_1_1_1_1 (call : CallA) (n : Nat) (m1_1_0_1_0 : Nat) (w0a : Option Pos) (w0l : Nat) (w0c : Cap) (w1 : Int) (w2 : Int) (w7 : Int) (w8 : Int) (S : AS) : Option (AV × AS) := evC E call n 75 (E.at 75 [1, 1, 0, 1, 0, 0, 1, 0, 0, 1, 1, 1, 1, 1]) 1 [(0, (.sl w0a w0l w0c)), (1, (.int .i64 w1)), (2, (.int .i64 w2)), (7, (.int .i64 w7)), (8, (.int .i64 w8))] S (kBlk 1 (kSeq E call n 75 (E.at 75 [1, 1, 0, 1, 0, 0, 1, 1]) 0 (kLp (evC E call n 75 (E.at 75 [1, 1, 0, 1, 0, 0]) 0) [0, 1, 2, 6, 7, 8] m1_1_0_1_0 (kBlk 0 (kSeq E call n 75 (E.at 75 [1, 1, 1]) 0 (retK E (E.fn 75)))))))
def r75_l1_1_0_1_0_0_1_0_0_1_1_1_1_1_1_0_1_0 (call : CallA) (n : Nat) (m1_1_0_1_0 : Nat) (m : Nat) (w0a : Option Pos) (w0l : Nat) (w0c : Cap) (w1 : Int) (w2 : Int) (w7 : Int) (w8 : Int) (w10 : Int) (S : AS) : Option (AV × AS) := loopN (evC E call n 75 (E.at 75 [1, 1, 0, 1, 0, 0, 1, 0, 0, 1, 1, 1, 1, 1, 1, 0, 1, 0, 0]) 6) [0, 1, 2, 7, 8, 10] m [(0, (.sl w0a w0l w0c)), (1, (.int .i64 w1)), (2, (.int .i64 w2)), (7, (.int .i64 w7)), (8, (.int .i64 w8)), (10, (.int .i64 w10))] S (kBlk 6 (kBlk 1 (kSeq E call n 75 (E.at 75 [1, 1, 0, 1, 0, 0, 1, 1]) 0 (kLp (evC E call n 75 (E.at 75 [1, 1, 0, 1, 0, 0]) 0) [0, 1, 2, 6, 7, 8] m1_1_0_1_0 (kBlk 0 (kSeq E call n 75 (E.at 75 [1, 1, 1]) 0 (retK E (E.fn 75))))))))
def r75_j1_1_0_1_0_0_1_1 (call : CallA) (n : Nat) (m1_1_0_1_0 : Nat) (w0a : Option Pos) (w0l : Nat) (w0c : Cap) (w1 : Int) (w2 : Int) (w7 : Int) (w8 : Int) (S : AS) : Option (AV × AS) := evC E call n 75 (E.at 75 [1, 1, 0, 1, 0, 0, 1, 1]) 0 [(0, (.sl w0a w0l w0c)), (1, (.int .i64 w1)), (2, (.int .i64 w2)), (7, (.int .i64 w7)), (8, (.int .i64 w8))] S (kLp (evC E call n 75 (E.at 75 [1, 1, 0, 1, 0, 0]) 0) [0, 1, 2, 6, 7, 8] m1_1_0_1_0 (kBlk 0 (kSeq E call n 75 (E.at 75 [1, 1, 1]) 0 (retK E (E.fn 75)))))
theorem a75_l1_1_0_1_0 (call : CallA) (n : Nat)  (m : Nat) (w0a : Option Pos) (w0l : Nat) (w0c : Cap) (w1 : Int) (w2 : Int) (w6 : AV) (w7 : Int) (w8 : Int) (S : AS) : r75_l1_1_0_1_0 call n  (m + 1) w0a w0l w0c w1 w2 w6 w7 w8 S = b75_l1_1_0_1_0 call n (r75_l1_1_0_1_0_0_1_0_0_0_0 call n m n) w0a w0l w0c w1 w2 w6 w7 w8 S := by kernel_rfl
theorem a75_l1_1_0_1_0_0_1_0_0_0_0 (call : CallA) (n : Nat) (m1_1_0_1_0 : Nat) (m : Nat) (w0a : Option Pos) (w0l : Nat) (w0c : Cap) (w1 : Int) (w2 : Int) (w7 : Int) (w8 : Int) (S : AS) : r75_l1_1_0_1_0_0_1_0_0_0_0 call n m1_1_0_1_0 (m + 1) w0a w0l w0c w1 w2 w7 w8 S = b75_l1_1_0_1_0_0_1_0_0_0_0 call n (r75_l1_1_0_1_0_0_1_0_0_0_0 call n m1_1_0_1_0 m) (r75_j1_1_0_1_0_0_1_0_0_1 call n m1_1_0_1_0) w0a w0l w0c w1 w2 w7 w8 S := by kernel_rfl
theorem a75_j1_1_0_1_0_0_1_0_0_1 (call : CallA) (n : Nat) (m1_1_0_1_0 : Nat) (w0a : Option Pos) (w0l : Nat) (w0c : Cap) (w1 : Int) (w2 : Int) (w7 : Int) (w8 : Int) (S : AS) : r75_j1_1_0_1_0_0_1_0_0_1 call n m1_1_0_1_0 w0a w0l w0c w1 w2 w7 w8 S = b75_j1_1_0_1_0_0_1_0_0_1 call n (r75_l1_1_0_1_0_0_1_0_0_1_1_1_1_0_1_0_1_0 call n m1_1_0_1_0 n) (r75_j1_1_0_1_0_0_1_0_0_1_1_1_1_1 call n m1_1_0_1_0) w0a w0l w0c w1 w2 w7 w8 S := by kernel_rfl
theorem a75_l1_1_0_1_0_0_1_0_0_1_1_1_1_0_1_0_1_0 (call : CallA) (n : Nat) (m1_1_0_1_0 : Nat) (m : Nat) (w0a : Option Pos) (w0l : Nat) (w0c : Cap) (w1 : Int) (w2 : Int) (w7 : Int) (w8 : Int) (w9 : Int) (S : AS) : r75_l1_1_0_1_0_0_1_0_0_1_1_1_1_0_1_0_1_0 call n m1_1_0_1_0 (m + 1) w0a w0l w0c w1 w2 w7 w8 w9 S = b75_l1_1_0_1_0_0_1_0_0_1_1_1_1_0_1_0_1_0 call n (r75_j1_1_0_1_0_0_1_0_0_1_1_1_1_1 call n m1_1_0_1_0) (r75_l1_1_0_1_0_0_1_0_0_1_1_1_1_0_1_0_1_0 call n m1_1_0_1_0 m) w0a w0l w0c w1 w2 w7 w8 w9 S := by kernel_rfl
theorem a75_j1_1_0_1_0_0_1_0_0_1_1_1_1_1 (call : CallA) (n : Nat) (m1_1_0_1_0 : Nat) (w0a : Option Pos) (w0l : Nat) (w0c : Cap) (w1 : Int) (w2 : Int) (w7 : Int) (w8 : Int) (S : AS) : r75_j1_1_0_1_0_0_1_0_0_1_1_1_1_1 call n m1_1_0_1_0 w0a w0l w0c w1 w2 w7 w8 S = b75_j1_1_0_1_0_0_1_0_0_1_1_1_1_1 call n (r75_l1_1_0_1_0_0_1_0_0_1_1_1_1_1_1_0_1_0 call n m1_1_0_1_0 n) (r75_j1_1_0_1_0_0_1_1 call n m1_1_0_1_0) w0a w0l w0c w1 w2 w7 w8 S := by kernel_rfl
theorem a75_l1_1_0_1_0_0_1_0_0_1_1_1_1_1_1_0_1_0 (call : CallA) (n : Nat) (m1_1_0_1_0 : Nat) (m : Nat) (w0a : Option Pos) (w0l : Nat) (w0c : Cap) (w1 : Int) (w2 : Int) (w7 : Int) (w8 : Int) (w10 : Int) (S : AS) : r75_l1_1_0_1_0_0_1_0_0_1_1_1_1_1_1_0_1_0 call n m1_1_0_1_0 (m + 1) w0a w0l w0c w1 w2 w7 w8 w10 S = b75_l1_1_0_1_0_0_1_0_0_1_1_1_1_1_1_0_1_0 call n (r75_j1_1_0_1_0_0_1_1 call n m1_1_0_1_0) (r75_l1_1_0_1_0_0_1_0_0_1_1_1_1_1_1_0_1_0 call n m1_1_0_1_0 m) w0a w0l w0c w1 w2 w7 w8 w10 S := by kernel_rfl
theorem a75_j1_1_0_1_0_0_1_1 (call : CallA) (n : Nat) (m1_1_0_1_0 : Nat) (w0a : Option Pos) (w0l : Nat) (w0c : Cap) (w1 : Int) (w2 : Int) (w7 : Int) (w8 : Int) (S : AS) : r75_j1_1_0_1_0_0_1_1 call n m1_1_0_1_0 w0a w0l w0c w1 w2 w7 w8 S = b75_j1_1_0_1_0_0_1_1 call n (r75_l1_1_0_1_0 call n  m1_1_0_1_0) w0a w0l w0c w1 w2 w7 w8 S := by kernel_rfl
theorem a75_entry (call : CallA) (n : Nat) (x0a : Option Pos) (x0l : Nat) (x0c : Cap) (x1 : Int) (x2 : Int) (S : AS) : evC E call n 75 (E.at 75 []) 0 (enumT 0 [(.sl x0a x0l x0c), (.int .i64 x1), (.int .i64 x2)]) S (retK E (E.fn 75)) = b75_entry call n (r75_l1_1_0_1_0 call n  n) x0a x0l x0c x1 x2 S := by kernel_rfl
def J75_j1_1_0_1_0_0_1_1 (call : CallA) (n : Nat) (n1_1_0_1_0 : Option Pos → Nat → Cap → Int → Int → AV → Int → Int → AS → Option (AV × AS)) (w0a : Option Pos) (w0l : Nat) (w0c : Cap) (w1 : Int) (w2 : Int) (w7 : Int) (w8 : Int) (S : AS) : Option (AV × AS) := b75_j1_1_0_1_0_0_1_1 call n n1_1_0_1_0 w0a w0l w0c w1 w2 w7 w8 S
theorem h75_j1_1_0_1_0_0_1_1 (call : CallA) (n : Nat) (m1_1_0_1_0 : Nat) : r75_j1_1_0_1_0_0_1_1 call n m1_1_0_1_0 = J75_j1_1_0_1_0_0_1_1 call n (r75_l1_1_0_1_0 call n  m1_1_0_1_0) := by
  funext w0a w0l w0c w1 w2 w7 w8 S
  rw [J75_j1_1_0_1_0_0_1_1, a75_j1_1_0_1_0_0_1_1]
def J75_l1_1_0_1_0_0_1_0_0_1_1_1_1_1_1_0_1_0 (call : CallA) (n : Nat) (n1_1_0_1_0 : Option Pos → Nat → Cap → Int → Int → AV → Int → Int → AS → Option (AV × AS)) (m : Nat) : Option Pos → Nat → Cap → Int → Int → Int → Int → Int → AS → Option (AV × AS) := Nat.rec (motive := fun _ => Option Pos → Nat → Cap → Int → Int → Int → Int → Int → AS → Option (AV × AS)) (fun _ _ _ _ _ _ _ _ _ => none) (fun mK ih w0a w0l w0c w1 w2 w7 w8 w10 S => b75_l1_1_0_1_0_0_1_0_0_1_1_1_1_1_1_0_1_0 call n (J75_j1_1_0_1_0_0_1_1 call n n1_1_0_1_0) ih w0a w0l w0c w1 w2 w7 w8 w10 S) m
theorem J75_l1_1_0_1_0_0_1_0_0_1_1_1_1_1_1_0_1_0_succ (call : CallA) (n : Nat) (n1_1_0_1_0 : Option Pos → Nat → Cap → Int → Int → AV → Int → Int → AS → Option (AV × AS)) (m : Nat) (w0a : Option Pos) (w0l : Nat) (w0c : Cap) (w1 : Int) (w2 : Int) (w7 : Int) (w8 : Int) (w10 : Int) (S : AS) : J75_l1_1_0_1_0_0_1_0_0_1_1_1_1_1_1_0_1_0 call n n1_1_0_1_0 (m + 1) w0a w0l w0c w1 w2 w7 w8 w10 S = b75_l1_1_0_1_0_0_1_0_0_1_1_1_1_1_1_0_1_0 call n (J75_j1_1_0_1_0_0_1_1 call n n1_1_0_1_0) (J75_l1_1_0_1_0_0_1_0_0_1_1_1_1_1_1_0_1_0 call n n1_1_0_1_0 m) w0a w0l w0c w1 w2 w7 w8 w10 S := rfl
theorem h75_l1_1_0_1_0_0_1_0_0_1_1_1_1_1_1_0_1_0 (call : CallA) (n : Nat) (m1_1_0_1_0 : Nat) (m : Nat) : r75_l1_1_0_1_0_0_1_0_0_1_1_1_1_1_1_0_1_0 call n m1_1_0_1_0 m = J75_l1_1_0_1_0_0_1_0_0_1_1_1_1_1_1_0_1_0 call n (r75_l1_1_0_1_0 call n  m1_1_0_1_0) m := by
  induction m with
  | zero => rfl
  | succ m ih =>
    funext w0a w0l w0c w1 w2 w7 w8 w10 S
    rw [J75_l1_1_0_1_0_0_1_0_0_1_1_1_1_1_1_0_1_0_succ, a75_l1_1_0_1_0_0_1_0_0_1_1_1_1_1_1_0_1_0, h75_j1_1_0_1_0_0_1_1 call n m1_1_0_1_0, ih]
def J75_j1_1_0_1_0_0_1_0_0_1_1_1_1_1 (call : CallA) (n : Nat) (n1_1_0_1_0 : Option Pos → Nat → Cap → Int → Int → AV → Int → Int → AS → Option (AV × AS)) (w0a : Option Pos) (w0l : Nat) (w0c : Cap) (w1 : Int) (w2 : Int) (w7 : Int) (w8 : Int) (S : AS) : Option (AV × AS) := b75_j1_1_0_1_0_0_1_0_0_1_1_1_1_1 call n (J75_l1_1_0_1_0_0_1_0_0_1_1_1_1_1_1_0_1_0 call n n1_1_0_1_0 n) (J75_j1_1_0_1_0_0_1_1 call n n1_1_0_1_0) w0a w0l w0c w1 w2 w7 w8 S
theorem h75_j1_1_0_1_0_0_1_0_0_1_1_1_1_1 (call : CallA) (n : Nat) (m1_1_0_1_0 : Nat) : r75_j1_1_0_1_0_0_1_0_0_1_1_1_1_1 call n m1_1_0_1_0 = J75_j1_1_0_1_0_0_1_0_0_1_1_1_1_1 call n (r75_l1_1_0_1_0 call n  m1_1_0_1_0) := by
  funext w0a w0l w0c w1 w2 w7 w8 S
  rw [J75_j1_1_0_1_0_0_1_0_0_1_1_1_1_1, a75_j1_1_0_1_0_0_1_0_0_1_1_1_1_1, h75_l1_1_0_1_0_0_1_0_0_1_1_1_1_1_1_0_1_0 call n m1_1_0_1_0 n, h75_j1_1_0_1_0_0_1_1 call n m1_1_0_1_0]
def J75_l1_1_0_1_0_0_1_0_0_1_1_1_1_0_1_0_1_0 (call : CallA) (n : Nat) (n1_1_0_1_0 : Option Pos → Nat → Cap → Int → Int → AV → Int → Int → AS → Option (AV × AS)) (m : Nat) : Option Pos → Nat → Cap → Int → Int → Int → Int → Int → AS → Option (AV × AS) := Nat.rec (motive := fun _ => Option Pos → Nat → Cap → Int → Int → Int → Int → Int → AS → Option (AV × AS)) (fun _ _ _ _ _ _ _ _ _ => none) (fun mK ih w0a w0l w0c w1 w2 w7 w8 w9 S => b75_l1_1_0_1_0_0_1_0_0_1_1_1_1_0_1_0_1_0 call n (J75_j1_1_0_1_0_0_1_0_0_1_1_1_1_1 call n n1_1_0_1_0) ih w0a w0l w0c w1 w2 w7 w8 w9 S) m
theorem J75_l1_1_0_1_0_0_1_0_0_1_1_1_1_0_1_0_1_0_succ (call : CallA) (n : Nat) (n1_1_0_1_0 : Option Pos → Nat → Cap → Int → Int → AV → Int → Int → AS → Option (AV × AS)) (m : Nat) (w0a : Option Pos) (w0l : Nat) (w0c : Cap) (w1 : Int) (w2 : Int) (w7 : Int) (w8 : Int) (w9 : Int) (S : AS) : J75_l1_1_0_1_0_0_1_0_0_1_1_1_1_0_1_0_1_0 call n n1_1_0_1_0 (m + 1) w0a w0l w0c w1 w2 w7 w8 w9 S = b75_l1_1_0_1_0_0_1_0_0_1_1_1_1_0_1_0_1_0 call n (J75_j1_1_0_1_0_0_1_0_0_1_1_1_1_1 call n n1_1_0_1_0) (J75_l1_1_0_1_0_0_1_0_0_1_1_1_1_0_1_0_1_0 call n n1_1_0_1_0 m) w0a w0l w0c w1 w2 w7 w8 w9 S := rfl
theorem h75_l1_1_0_1_0_0_1_0_0_1_1_1_1_0_1_0_1_0 (call : CallA) (n : Nat) (m1_1_0_1_0 : Nat) (m : Nat) : r75_l1_1_0_1_0_0_1_0_0_1_1_1_1_0_1_0_1_0 call n m1_1_0_1_0 m = J75_l1_1_0_1_0_0_1_0_0_1_1_1_1_0_1_0_1_0 call n (r75_l1_1_0_1_0 call n  m1_1_0_1_0) m := by
  induction m with
  | zero => rfl
  | succ m ih =>
    funext w0a w0l w0c w1 w2 w7 w8 w9 S
    rw [J75_l1_1_0_1_0_0_1_0_0_1_1_1_1_0_1_0_1_0_succ, a75_l1_1_0_1_0_0_1_0_0_1_1_1_1_0_1_0_1_0, h75_j1_1_0_1_0_0_1_0_0_1_1_1_1_1 call n m1_1_0_1_0, ih]
def J75_j1_1_0_1_0_0_1_0_0_1 (call : CallA) (n : Nat) (n1_1_0_1_0 : Option Pos → Nat → Cap → Int → Int → AV → Int → Int → AS → Option (AV × AS)) (w0a : Option Pos) (w0l : Nat) (w0c : Cap) (w1 : Int) (w2 : Int) (w7 : Int) (w8 : Int) (S : AS) : Option (AV × AS) := b75_j1_1_0_1_0_0_1_0_0_1 call n (J75_l1_1_0_1_0_0_1_0_0_1_1_1_1_0_1_0_1_0 call n n1_1_0_1_0 n) (J75_j1_1_0_1_0_0_1_0_0_1_1_1_1_1 call n n1_1_0_1_0) w0a w0l w0c w1 w2 w7 w8 S
theorem h75_j1_1_0_1_0_0_1_0_0_1 (call : CallA) (n : Nat) (m1_1_0_1_0 : Nat) : r75_j1_1_0_1_0_0_1_0_0_1 call n m1_1_0_1_0 = J75_j1_1_0_1_0_0_1_0_0_1 call n (r75_l1_1_0_1_0 call n  m1_1_0_1_0) := by
  funext w0a w0l w0c w1 w2 w7 w8 S
  rw [J75_j1_1_0_1_0_0_1_0_0_1, a75_j1_1_0_1_0_0_1_0_0_1, h75_l1_1_0_1_0_0_1_0_0_1_1_1_1_0_1_0_1_0 call n m1_1_0_1_0 n, h75_j1_1_0_1_0_0_1_0_0_1_1_1_1_1 call n m1_1_0_1_0]
def J75_l1_1_0_1_0_0_1_0_0_0_0 (call : CallA) (n : Nat) (n1_1_0_1_0 : Option Pos → Nat → Cap → Int → Int → AV → Int → Int → AS → Option (AV × AS)) (m : Nat) : Option Pos → Nat → Cap → Int → Int → Int → Int → AS → Option (AV × AS) := Nat.rec (motive := fun _ => Option Pos → Nat → Cap → Int → Int → Int → Int → AS → Option (AV × AS)) (fun _ _ _ _ _ _ _ _ => none) (fun mK ih w0a w0l w0c w1 w2 w7 w8 S => b75_l1_1_0_1_0_0_1_0_0_0_0 call n ih (J75_j1_1_0_1_0_0_1_0_0_1 call n n1_1_0_1_0) w0a w0l w0c w1 w2 w7 w8 S) m
theorem J75_l1_1_0_1_0_0_1_0_0_0_0_succ (call : CallA) (n : Nat) (n1_1_0_1_0 : Option Pos → Nat → Cap → Int → Int → AV → Int → Int → AS → Option (AV × AS)) (m : Nat) (w0a : Option Pos) (w0l : Nat) (w0c : Cap) (w1 : Int) (w2 : Int) (w7 : Int) (w8 : Int) (S : AS) : J75_l1_1_0_1_0_0_1_0_0_0_0 call n n1_1_0_1_0 (m + 1) w0a w0l w0c w1 w2 w7 w8 S = b75_l1_1_0_1_0_0_1_0_0_0_0 call n (J75_l1_1_0_1_0_0_1_0_0_0_0 call n n1_1_0_1_0 m) (J75_j1_1_0_1_0_0_1_0_0_1 call n n1_1_0_1_0) w0a w0l w0c w1 w2 w7 w8 S := rfl
theorem h75_l1_1_0_1_0_0_1_0_0_0_0 (call : CallA) (n : Nat) (m1_1_0_1_0 : Nat) (m : Nat) : r75_l1_1_0_1_0_0_1_0_0_0_0 call n m1_1_0_1_0 m = J75_l1_1_0_1_0_0_1_0_0_0_0 call n (r75_l1_1_0_1_0 call n  m1_1_0_1_0) m := by
  induction m with
  | zero => rfl
  | succ m ih =>
    funext w0a w0l w0c w1 w2 w7 w8 S
    rw [J75_l1_1_0_1_0_0_1_0_0_0_0_succ, a75_l1_1_0_1_0_0_1_0_0_0_0, h75_j1_1_0_1_0_0_1_0_0_1 call n m1_1_0_1_0, ih]
def J75_l1_1_0_1_0 (call : CallA) (n : Nat)  (m : Nat) : Option Pos → Nat → Cap → Int → Int → AV → Int → Int → AS → Option (AV × AS) := Nat.rec (motive := fun _ => Option Pos → Nat → Cap → Int → Int → AV → Int → Int → AS → Option (AV × AS)) (fun _ _ _ _ _ _ _ _ _ => none) (fun mK ih w0a w0l w0c w1 w2 w6 w7 w8 S => b75_l1_1_0_1_0 call n (J75_l1_1_0_1_0_0_1_0_0_0_0 call n ih n) w0a w0l w0c w1 w2 w6 w7 w8 S) m
theorem J75_l1_1_0_1_0_succ (call : CallA) (n : Nat)  (m : Nat) (w0a : Option Pos) (w0l : Nat) (w0c : Cap) (w1 : Int) (w2 : Int) (w6 : AV) (w7 : Int) (w8 : Int) (S : AS) : J75_l1_1_0_1_0 call n  (m + 1) w0a w0l w0c w1 w2 w6 w7 w8 S = b75_l1_1_0_1_0 call n (J75_l1_1_0_1_0_0_1_0_0_0_0 call n (J75_l1_1_0_1_0 call n  m) n) w0a w0l w0c w1 w2 w6 w7 w8 S := rfl
theorem h75_l1_1_0_1_0 (call : CallA) (n : Nat)  (m : Nat) : r75_l1_1_0_1_0 call n  m = J75_l1_1_0_1_0 call n  m := by
  induction m with
  | zero => rfl
  | succ m ih =>
    funext w0a w0l w0c w1 w2 w6 w7 w8 S
    rw [J75_l1_1_0_1_0_succ, a75_l1_1_0_1_0, h75_l1_1_0_1_0_0_1_0_0_0_0 call n m n, ih]
def J75 (call : CallA) (n : Nat) (x0a : Option Pos) (x0l : Nat) (x0c : Cap) (x1 : Int) (x2 : Int) (S : AS) : Option (AV × AS) := b75_entry call n (J75_l1_1_0_1_0 call n  n) x0a x0l x0c x1 x2 S
theorem run75 (o : Orc) (n : Nat) (args : List AV) (S : AS) (ho : o 75 args = none) : evF E o (n + 1) (.fn 75) args S = evC E (evF E o n) n 75 (E.at 75 []) 0 (enumT 0 args) S (retK E (E.fn 75)) := by
  rw [evF, ho]; kernel_rfl
theorem J75_eq (call : CallA) (n : Nat) (x0a : Option Pos) (x0l : Nat) (x0c : Cap) (x1 : Int) (x2 : Int) (S : AS) : evC E call n 75 (E.at 75 []) 0 (enumT 0 [(.sl x0a x0l x0c), (.int .i64 x1), (.int .i64 x2)]) S (retK E (E.fn 75)) = J75 call n x0a x0l x0c x1 x2 S := by
  rw [J75, a75_entry, h75_l1_1_0_1_0 call n  n]
theorem F75 {o : Orc} (n : Nat) (x0a : Option Pos) (x0l : Nat) (x0c : Cap) (x1 : Int) (x2 : Int) (S : AS) (ho : ∀ args, o 75 args = none) : evF E o (n + 1) (.fn 75) [(.sl x0a x0l x0c), (.int .i64 x1), (.int .i64 x2)] S = J75 (evF E o n) n x0a x0l x0c x1 x2 S := (run75 o n [(.sl x0a x0l x0c), (.int .i64 x1), (.int .i64 x2)] S (ho _)).trans (J75_eq _ _ x0a x0l x0c x1 x2 S)
def b76_entry (call : CallA) (n : Nat)   (x0 : List UInt8) (x1 : List UInt8) (S : AS) : Option (AV × AS) :=
 callB call 93 [(.str x0)] S fun v2 S1 =>
 cond v2 (
 callB call 93 [(.str x1)] S1 fun v4 S3 =>
 cond (!v4) (
 some ((.bool true), S3)) (
 some ((.bool (Op.bytesLess x0 x1)), S3))) (
 some ((.bool (Op.bytesLess x0 x1)), S1))

theorem a76_entry (call : CallA) (n : Nat) (x0 : List UInt8) (x1 : List UInt8) (S : AS) : evC E call n 76 (E.at 76 []) 0 (enumT 0 [(.str x0), (.str x1)]) S (retK E (E.fn 76)) = b76_entry call n  x0 x1 S := by kernel_rfl
def J76 (call : CallA) (n : Nat) (x0 : List UInt8) (x1 : List UInt8) (S : AS) : Option (AV × AS) := b76_entry call n  x0 x1 S
theorem run76 (o : Orc) (n : Nat) (args : List AV) (S : AS) (ho : o 76 args = none) : evF E o (n + 1) (.fn 76) args S = evC E (evF E o n) n 76 (E.at 76 []) 0 (enumT 0 args) S (retK E (E.fn 76)) := by
  rw [evF, ho]; kernel_rfl
theorem J76_eq (call : CallA) (n : Nat) (x0 : List UInt8) (x1 : List UInt8) (S : AS) : evC E call n 76 (E.at 76 []) 0 (enumT 0 [(.str x0), (.str x1)]) S (retK E (E.fn 76)) = J76 call n x0 x1 S := by
  rw [J76, a76_entry]
theorem F76 {o : Orc} (n : Nat) (x0 : List UInt8) (x1 : List UInt8) (S : AS) (ho : ∀ args, o 76 args = none) : evF E o (n + 1) (.fn 76) [(.str x0), (.str x1)] S = J76 (evF E o n) n x0 x1 S := (run76 o n [(.str x0), (.str x1)] S (ho _)).trans (J76_eq _ _ x0 x1 S)
def b77_l1_1_1_0_0 (call : CallA) (n : Nat)  (l1_1_1_0_0_0_0_0_0 : Option Pos → Nat → Cap → Int → Int → Int → AS → Option (AV × AS)) (w0a : Option Pos) (w0l : Nat) (w0c : Cap) (w1 : Int) (w9 : Int) (w10 : Int) (S : AS) : Option (AV × AS) :=
 l1_1_1_0_0_0_0_0_0 w0a w0l w0c w1 w9 w10 S

def b77_l1_1_1_0_0_0_0_0_0 (call : CallA) (n : Nat)  (l1_1_1_0_0_0_0_0_0 : Option Pos → Nat → Cap → Int → Int → Int → AS → Option (AV × AS)) (l1_1_1_0_0_0_0_1_0_0 : Option Pos → Nat → Cap → Int → Int → Int → AS → Option (AV × AS)) (w0a : Option Pos) (w0l : Nat) (w0c : Cap) (w1 : Int) (w9 : Int) (w10 : Int) (S : AS) : Option (AV × AS) :=
 cond (decide (w9 ≤ w10)) (
 ixSl 1 w0a w0l w1 fun p9 =>
 ldS S p9.1 p9.2 fun v10 =>
 ixSl 1 w0a w0l w9 fun p11 =>
 ldS S p11.1 p11.2 fun v12 =>
 callB call 76 [(.str v10), (.str v12)] S fun v14 S13 =>
 cond (!v14) (
 l1_1_1_0_0_0_0_0_0 w0a w0l w0c w1 (IntKind.wrap .i64 (w9 + 1)) w10 S13) (
 l1_1_1_0_0_0_0_1_0_0 w0a w0l w0c w1 w9 w10 S13)) (
 l1_1_1_0_0_0_0_1_0_0 w0a w0l w0c w1 w9 w10 S)

def b77_l1_1_1_0_0_0_0_1_0_0 (call : CallA) (n : Nat)  (l1_1_1_0_0_0_0_1_0_0 : Option Pos → Nat → Cap → Int → Int → Int → AS → Option (AV × AS)) (j1_1_1_0_0_0_0_1_1 : Option Pos → Nat → Cap → Int → Int → Int → AS → Option (AV × AS)) (w0a : Option Pos) (w0l : Nat) (w0c : Cap) (w1 : Int) (w9 : Int) (w10 : Int) (S : AS) : Option (AV × AS) :=
 cond (decide (w9 ≤ w10)) (
 ixSl 1 w0a w0l w1 fun p15 =>
 ldS S p15.1 p15.2 fun v16 =>
 ixSl 1 w0a w0l w10 fun p17 =>
 ldS S p17.1 p17.2 fun v18 =>
 callB call 76 [(.str v16), (.str v18)] S fun v20 S19 =>
 cond v20 (
 l1_1_1_0_0_0_0_1_0_0 w0a w0l w0c w1 w9 (IntKind.wrap .i64 (w10 - 1)) S19) (
 j1_1_1_0_0_0_0_1_1 w0a w0l w0c w1 w9 w10 S19)) (
 j1_1_1_0_0_0_0_1_1 w0a w0l w0c w1 w9 w10 S)

def b77_j1_1_1_0_0_0_0_1_1 (call : CallA) (n : Nat)  (l1_1_1_0_0 : Option Pos → Nat → Cap → Int → Int → Int → AS → Option (AV × AS)) (w0a : Option Pos) (w0l : Nat) (w0c : Cap) (w1 : Int) (w9 : Int) (w10 : Int) (S : AS) : Option (AV × AS) :=
 cond (decide (w9 > w10)) (
 some ((.int .i64 w9), S)) (
 ixSl 1 w0a w0l w10 fun p21 =>
 ldS S p21.1 p21.2 fun v22 =>
 ixSl 1 w0a w0l w9 fun p23 =>
 ldS S p23.1 p23.2 fun v24 =>
 ixSl 1 w0a w0l w9 fun p25 =>
 S.stn p25.1 p25.2 [(.str v22)] fun S26 =>
 ixSl 1 w0a w0l w10 fun p27 =>
 S26.stn p27.1 p27.2 [(.str v24)] fun S28 =>
 l1_1_1_0_0 w0a w0l w0c w1 (IntKind.wrap .i64 (w9 + 1)) (IntKind.wrap .i64 (w10 - 1)) S28)

def b77_entry (call : CallA) (n : Nat)  (l1_1_1_0_0 : Option Pos → Nat → Cap → Int → Int → Int → AS → Option (AV × AS)) (x0a : Option Pos) (x0l : Nat) (x0c : Cap) (x1 : Int) (x2 : Int) (x3 : Int) (S : AS) : Option (AV × AS) :=
 ixSl 1 x0a x0l x3 fun p1 =>
 ldS S p1.1 p1.2 fun v2 =>
 ixSl 1 x0a x0l x1 fun p3 =>
 ldS S p3.1 p3.2 fun v4 =>
 ixSl 1 x0a x0l x1 fun p5 =>
 S.stn p5.1 p5.2 [(.str v2)] fun S6 =>
 ixSl 1 x0a x0l x3 fun p7 =>
 S6.stn p7.1 p7.2 [(.str v4)] fun S8 =>
 l1_1_1_0_0 x0a x0l x0c x1 (IntKind.wrap .i64 (x1 + 1)) (IntKind.wrap .i64 (x2 - 1)) S8

def r77_l1_1_1_0_0 (call : CallA) (n : Nat)  (m : Nat) (w0a : Option Pos) (w0l : Nat) (w0c : Cap) (w1 : Int) (w9 : Int) (w10 : Int) (S : AS) : Option (AV × AS) := loopN (evC E call n 77 (E.at 77 [1, 1, 1, 0, 0, 0]) 0) [0, 1, 9, 10] m [(0, (.sl w0a w0l w0c)), (1, (.int .i64 w1)), (9, (.int .i64 w9)), (10, (.int .i64 w10))] S (kBlk 0 (kSeq E call n 77 (E.at 77 [1, 1, 1, 1]) 0 (retK E (E.fn 77))))
def r77_l1_1_1_0_0_0_0_0_0 (call : CallA) (n : Nat) (m1_1_1_0_0 : Nat) (m : Nat) (w0a : Option Pos) (w0l : Nat) (w0c : Cap) (w1 : Int) (w9 : Int) (w10 : Int) (S : AS) : Option (AV × AS) := loopN (evC E call n 77 (E.at 77 [1, 1, 1, 0, 0, 0, 0, 0, 0, 0]) 2) [0, 1, 9, 10] m [(0, (.sl w0a w0l w0c)), (1, (.int .i64 w1)), (9, (.int .i64 w9)), (10, (.int .i64 w10))] S (kBlk 2 (kSeq E call n 77 (E.at 77 [1, 1, 1, 0, 0, 0, 0, 1]) 1 (kBlk 1 (kLp (evC E call n 77 (E.at 77 [1, 1, 1, 0, 0, 0]) 0) [0, 1, 9, 10] m1_1_1_0_0 (kBlk 0 (kSeq E call n 77 (E.at 77 [1, 1, 1, 1]) 0 (retK E (E.fn 77))))))))
def r77_l1_1_1_0_0_0_0_1_0_0 (call : CallA) (n : Nat) (m1_1_1_0_0 : Nat) (m : Nat) (w0a : Option Pos) (w0l : Nat) (w0c : Cap) (w1 : Int) (w9 : Int) (w10 : Int) (S : AS) : Option (AV × AS) := loopN (evC E call n 77 (E.at 77 [1, 1, 1, 0, 0, 0, 0, 1, 0, 0, 0]) 4) [0, 1, 9, 10] m [(0, (.sl w0a w0l w0c)), (1, (.int .i64 w1)), (9, (.int .i64 w9)), (10, (.int .i64 w10))] S (kBlk 4 (kSeq E call n 77 (E.at 77 [1, 1, 1, 0, 0, 0, 0, 1, 1]) 1 (kBlk 1 (kLp (evC E call n 77 (E.at 77 [1, 1, 1, 0, 0, 0]) 0) [0, 1, 9, 10] m1_1_1_0_0 (kBlk 0 (kSeq E call n 77 (E.at 77 [1, 1, 1, 1]) 0 (retK E (E.fn 77))))))))
def r77_j1_1_1_0_0_0_0_1_1 (call : CallA) (n : Nat) (m1_1_1_0_0 : Nat) (w0a : Option Pos) (w0l : Nat) (w0c : Cap) (w1 : Int) (w9 : Int) (w10 : Int) (S : AS) : Option (AV × AS) := evC E call n 77 (E.at 77 [1, 1, 1, 0, 0, 0, 0, 1, 1]) 1 [(0, (.sl w0a w0l w0c)), (1, (.int .i64 w1)), (9, (.int .i64 w9)), (10, (.int .i64 w10))] S (kBlk 1 (kLp (evC E call n 77 (E.at 77 [1, 1, 1, 0, 0, 0]) 0) [0, 1, 9, 10] m1_1_1_0_0 (kBlk 0 (kSeq E call n 77 (E.at 77 [1, 1, 1, 1]) 0 (retK E (E.fn 77))))))
theorem a77_l1_1_1_0_0 (call : CallA) (n : Nat)  (m : Nat) (w0a : Option Pos) (w0l : Nat) (w0c : Cap) (w1 : Int) (w9 : Int) (w10 : Int) (S : AS) : r77_l1_1_1_0_0 call n  (m + 1) w0a w0l w0c w1 w9 w10 S = b77_l1_1_1_0_0 call n (r77_l1_1_1_0_0_0_0_0_0 call n m n) w0a w0l w0c w1 w9 w10 S := by kernel_rfl
theorem a77_l1_1_1_0_0_0_0_0_0 (call : CallA) (n : Nat) (m1_1_1_0_0 : Nat) (m : Nat) (w0a : Option Pos) (w0l : Nat) (w0c : Cap) (w1 : Int) (w9 : Int) (w10 : Int) (S : AS) : r77_l1_1_1_0_0_0_0_0_0 call n m1_1_1_0_0 (m + 1) w0a w0l w0c w1 w9 w10 S = b77_l1_1_1_0_0_0_0_0_0 call n (r77_l1_1_1_0_0_0_0_0_0 call n m1_1_1_0_0 m) (r77_l1_1_1_0_0_0_0_1_0_0 call n m1_1_1_0_0 n) w0a w0l w0c w1 w9 w10 S := by kernel_rfl
theorem a77_l1_1_1_0_0_0_0_1_0_0 (call : CallA) (n : Nat) (m1_1_1_0_0 : Nat) (m : Nat) (w0a : Option Pos) (w0l : Nat) (w0c : Cap) (w1 : Int) (w9 : Int) (w10 : Int) (S : AS) : r77_l1_1_1_0_0_0_0_1_0_0 call n m1_1_1_0_0 (m + 1) w0a w0l w0c w1 w9 w10 S = b77_l1_1_1_0_0_0_0_1_0_0 call n (r77_l1_1_1_0_0_0_0_1_0_0 call n m1_1_1_0_0 m) (r77_j1_1_1_0_0_0_0_1_1 call n m1_1_1_0_0) w0a w0l w0c w1 w9 w10 S := by kernel_rfl
theorem a77_j1_1_1_0_0_0_0_1_1 (call : CallA) (n : Nat) (m1_1_1_0_0 : Nat) (w0a : Option Pos) (w0l : Nat) (w0c : Cap) (w1 : Int) (w9 : Int) (w10 : Int) (S : AS) : r77_j1_1_1_0_0_0_0_1_1 call n m1_1_1_0_0 w0a w0l w0c w1 w9 w10 S = b77_j1_1_1_0_0_0_0_1_1 call n (r77_l1_1_1_0_0 call n  m1_1_1_0_0) w0a w0l w0c w1 w9 w10 S := by kernel_rfl
theorem a77_entry (call : CallA) (n : Nat) (x0a : Option Pos) (x0l : Nat) (x0c : Cap) (x1 : Int) (x2 : Int) (x3 : Int) (S : AS) : evC E call n 77 (E.at 77 []) 0 (enumT 0 [(.sl x0a x0l x0c), (.int .i64 x1), (.int .i64 x2), (.int .i64 x3)]) S (retK E (E.fn 77)) = b77_entry call n (r77_l1_1_1_0_0 call n  n) x0a x0l x0c x1 x2 x3 S := by kernel_rfl
def J77_j1_1_1_0_0_0_0_1_1 (call : CallA) (n : Nat) (n1_1_1_0_0 : Option Pos → Nat → Cap → Int → Int → Int → AS → Option (AV × AS)) (w0a : Option Pos) (w0l : Nat) (w0c : Cap) (w1 : Int) (w9 : Int) (w10 : Int) (S : AS) : Option (AV × AS) := b77_j1_1_1_0_0_0_0_1_1 call n n1_1_1_0_0 w0a w0l w0c w1 w9 w10 S
theorem h77_j1_1_1_0_0_0_0_1_1 (call : CallA) (n : Nat) (m1_1_1_0_0 : Nat) : r77_j1_1_1_0_0_0_0_1_1 call n m1_1_1_0_0 = J77_j1_1_1_0_0_0_0_1_1 call n (r77_l1_1_1_0_0 call n  m1_1_1_0_0) := by
  funext w0a w0l w0c w1 w9 w10 S
  rw [J77_j1_1_1_0_0_0_0_1_1, a77_j1_1_1_0_0_0_0_1_1]
def J77_l1_1_1_0_0_0_0_1_0_0 (call : CallA) (n : Nat) (n1_1_1_0_0 : Option Pos → Nat → Cap → Int → Int → Int → AS → Option (AV × AS)) (m : Nat) : Option Pos → Nat → Cap → Int → Int → Int → AS → Option (AV × AS) := Nat.rec (motive := fun _ => Option Pos → Nat → Cap → Int → Int → Int → AS → Option (AV × AS)) (fun _ _ _ _ _ _ _ => none) (fun mK ih w0a w0l w0c w1 w9 w10 S => b77_l1_1_1_0_0_0_0_1_0_0 call n ih (J77_j1_1_1_0_0_0_0_1_1 call n n1_1_1_0_0) w0a w0l w0c w1 w9 w10 S) m
theorem J77_l1_1_1_0_0_0_0_1_0_0_succ (call : CallA) (n : Nat) (n1_1_1_0_0 : Option Pos → Nat → Cap → Int → Int → Int → AS → Option (AV × AS)) (m : Nat) (w0a : Option Pos) (w0l : Nat) (w0c : Cap) (w1 : Int) (w9 : Int) (w10 : Int) (S : AS) : J77_l1_1_1_0_0_0_0_1_0_0 call n n1_1_1_0_0 (m + 1) w0a w0l w0c w1 w9 w10 S = b77_l1_1_1_0_0_0_0_1_0_0 call n (J77_l1_1_1_0_0_0_0_1_0_0 call n n1_1_1_0_0 m) (J77_j1_1_1_0_0_0_0_1_1 call n n1_1_1_0_0) w0a w0l w0c w1 w9 w10 S := rfl
theorem h77_l1_1_1_0_0_0_0_1_0_0 (call : CallA) (n : Nat) (m1_1_1_0_0 : Nat) (m : Nat) : r77_l1_1_1_0_0_0_0_1_0_0 call n m1_1_1_0_0 m = J77_l1_1_1_0_0_0_0_1_0_0 call n (r77_l1_1_1_0_0 call n  m1_1_1_0_0) m := by
  induction m with
  | zero => rfl
  | succ m ih =>
    funext w0a w0l w0c w1 w9 w10 S
    rw [J77_l1_1_1_0_0_0_0_1_0_0_succ, a77_l1_1_1_0_0_0_0_1_0_0, h77_j1_1_1_0_0_0_0_1_1 call n m1_1_1_0_0, ih]
def J77_l1_1_1_0_0_0_0_0_0 (call : CallA) (n : Nat) (n1_1_1_0_0 : Option Pos → Nat → Cap → Int → Int → Int → AS → Option (AV × AS)) (m : Nat) : Option Pos → Nat → Cap → Int → Int → Int → AS → Option (AV × AS) := Nat.rec (motive := fun _ => Option Pos → Nat → Cap → Int → Int → Int → AS → Option (AV × AS)) (fun _ _ _ _ _ _ _ => none) (fun mK ih w0a w0l w0c w1 w9 w10 S => b77_l1_1_1_0_0_0_0_0_0 call n ih (J77_l1_1_1_0_0_0_0_1_0_0 call n n1_1_1_0_0 n) w0a w0l w0c w1 w9 w10 S) m
theorem J77_l1_1_1_0_0_0_0_0_0_succ (call : CallA) (n : Nat) (n1_1_1_0_0 : Option Pos → Nat → Cap → Int → Int → Int → AS → Option (AV × AS)) (m : Nat) (w0a : Option Pos) (w0l : Nat) (w0c : Cap) (w1 : Int) (w9 : Int) (w10 : Int) (S : AS) : J77_l1_1_1_0_0_0_0_0_0 call n n1_1_1_0_0 (m + 1) w0a w0l w0c w1 w9 w10 S = b77_l1_1_1_0_0_0_0_0_0 call n (J77_l1_1_1_0_0_0_0_0_0 call n n1_1_1_0_0 m) (J77_l1_1_1_0_0_0_0_1_0_0 call n n1_1_1_0_0 n) w0a w0l w0c w1 w9 w10 S := rfl
theorem h77_l1_1_1_0_0_0_0_0_0 (call : CallA) (n : Nat) (m1_1_1_0_0 : Nat) (m : Nat) : r77_l1_1_1_0_0_0_0_0_0 call n m1_1_1_0_0 m = J77_l1_1_1_0_0_0_0_0_0 call n (r77_l1_1_1_0_0 call n  m1_1_1_0_0) m := by
  induction m with
  | zero => rfl
  | succ m ih =>
    funext w0a w0l w0c w1 w9 w10 S
    rw [J77_l1_1_1_0_0_0_0_0_0_succ, a77_l1_1_1_0_0_0_0_0_0, h77_l1_1_1_0_0_0_0_1_0_0 call n m1_1_1_0_0 n, ih]
def J77_l1_1_1_0_0 (call : CallA) (n : Nat)  (m : Nat) : Option Pos → Nat → Cap → Int → Int → Int → AS → Option (AV × AS) := Nat.rec (motive := fun _ => Option Pos → Nat → Cap → Int → Int → Int → AS → Option (AV × AS)) (fun _ _ _ _ _ _ _ => none) (fun mK ih w0a w0l w0c w1 w9 w10 S => b77_l1_1_1_0_0 call n (J77_l1_1_1_0_0_0_0_0_0 call n ih n) w0a w0l w0c w1 w9 w10 S) m
theorem J77_l1_1_1_0_0_succ (call : CallA) (n : Nat)  (m : Nat) (w0a : Option Pos) (w0l : Nat) (w0c : Cap) (w1 : Int) (w9 : Int) (w10 : Int) (S : AS) : J77_l1_1_1_0_0 call n  (m + 1) w0a w0l w0c w1 w9 w10 S = b77_l1_1_1_0_0 call n (J77_l1_1_1_0_0_0_0_0_0 call n (J77_l1_1_1_0_0 call n  m) n) w0a w0l w0c w1 w9 w10 S := rfl
theorem h77_l1_1_1_0_0 (call : CallA) (n : Nat)  (m : Nat) : r77_l1_1_1_0_0 call n  m = J77_l1_1_1_0_0 call n  m := by
  induction m with
  | zero => rfl
  | succ m ih =>
    funext w0a w0l w0c w1 w9 w10 S
    rw [J77_l1_1_1_0_0_succ, a77_l1_1_1_0_0, h77_l1_1_1_0_0_0_0_0_0 call n m n, ih]
def J77 (call : CallA) (n : Nat) (x0a : Option Pos) (x0l : Nat) (x0c : Cap) (x1 : Int) (x2 : Int) (x3 : Int) (S : AS) : Option (AV × AS) := b77_entry call n (J77_l1_1_1_0_0 call n  n) x0a x0l x0c x1 x2 x3 S
theorem run77 (o : Orc) (n : Nat) (args : List AV) (S : AS) (ho : o 77 args = none) : evF E o (n + 1) (.fn 77) args S = evC E (evF E o n) n 77 (E.at 77 []) 0 (enumT 0 args) S (retK E (E.fn 77)) := by
  rw [evF, ho]; kernel_rfl
theorem J77_eq (call : CallA) (n : Nat) (x0a : Option Pos) (x0l : Nat) (x0c : Cap) (x1 : Int) (x2 : Int) (x3 : Int) (S : AS) : evC E call n 77 (E.at 77 []) 0 (enumT 0 [(.sl x0a x0l x0c), (.int .i64 x1), (.int .i64 x2), (.int .i64 x3)]) S (retK E (E.fn 77)) = J77 call n x0a x0l x0c x1 x2 x3 S := by
  rw [J77, a77_entry, h77_l1_1_1_0_0 call n  n]
theorem F77 {o : Orc} (n : Nat) (x0a : Option Pos) (x0l : Nat) (x0c : Cap) (x1 : Int) (x2 : Int) (x3 : Int) (S : AS) (ho : ∀ args, o 77 args = none) : evF E o (n + 1) (.fn 77) [(.sl x0a x0l x0c), (.int .i64 x1), (.int .i64 x2), (.int .i64 x3)] S = J77 (evF E o n) n x0a x0l x0c x1 x2 x3 S := (run77 o n [(.sl x0a x0l x0c), (.int .i64 x1), (.int .i64 x2), (.int .i64 x3)] S (ho _)).trans (J77_eq _ _ x0a x0l x0c x1 x2 x3 S)
end
end Go.Ct
