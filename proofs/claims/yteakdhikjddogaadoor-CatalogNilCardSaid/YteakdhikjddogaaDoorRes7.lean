/- Plain readings of the functions, and that they are what the evaluator does: by program. -/
import Derived.Test.YteakdhikjddogaaDoorGrRes
import Derived.Test.YteakdhikjddogaaDoorENV
import Derived.KernelRfl
set_option maxRecDepth 100000
set_option linter.unusedVariables false
namespace Go.Ct
open Go.Gr
noncomputable section
def b78_l1_1_1_0_0 (call : CallA) (n : Nat)  (l1_1_1_0_0 : Option Pos → Nat → Cap → Int → Int → Int → AS → Option (AV × AS)) (l1_1_1_1_0_0 : Option Pos → Nat → Cap → Int → Int → Int → AS → Option (AV × AS)) (w0a : Option Pos) (w0l : Nat) (w0c : Cap) (w1 : Int) (w10 : Int) (w11 : Int) (S : AS) : Option (AV × AS) :=
 cond (decide (w10 ≤ w11)) (
 ixSl 1 w0a w0l w10 fun p9 =>
 ldS S p9.1 p9.2 fun v10 =>
 ixSl 1 w0a w0l w1 fun p11 =>
 ldS S p11.1 p11.2 fun v12 =>
 callB call 76 [(.str v10), (.str v12)] S fun v14 S13 =>
 cond v14 (
 l1_1_1_0_0 w0a w0l w0c w1 (IntKind.wrap .i64 (w10 + 1)) w11 S13) (
 l1_1_1_1_0_0 w0a w0l w0c w1 w10 w11 S13)) (
 l1_1_1_1_0_0 w0a w0l w0c w1 w10 w11 S)

def b78_l1_1_1_1_0_0 (call : CallA) (n : Nat)  (l1_1_1_1_0_0 : Option Pos → Nat → Cap → Int → Int → Int → AS → Option (AV × AS)) (j1_1_1_1_1 : Option Pos → Nat → Cap → Int → Int → Int → AS → Option (AV × AS)) (w0a : Option Pos) (w0l : Nat) (w0c : Cap) (w1 : Int) (w10 : Int) (w11 : Int) (S : AS) : Option (AV × AS) :=
 cond (decide (w10 ≤ w11)) (
 ixSl 1 w0a w0l w11 fun p15 =>
 ldS S p15.1 p15.2 fun v16 =>
 ixSl 1 w0a w0l w1 fun p17 =>
 ldS S p17.1 p17.2 fun v18 =>
 callB call 76 [(.str v16), (.str v18)] S fun v20 S19 =>
 cond (!v20) (
 l1_1_1_1_0_0 w0a w0l w0c w1 w10 (IntKind.wrap .i64 (w11 - 1)) S19) (
 j1_1_1_1_1 w0a w0l w0c w1 w10 w11 S19)) (
 j1_1_1_1_1 w0a w0l w0c w1 w10 w11 S)

def b78_j1_1_1_1_1 (call : CallA) (n : Nat)  (l1_1_1_1_1_1_1_1_1_0_0 : Option Pos → Nat → Cap → Int → Int → Int → AS → Option (AV × AS)) (w0a : Option Pos) (w0l : Nat) (w0c : Cap) (w1 : Int) (w10 : Int) (w11 : Int) (S : AS) : Option (AV × AS) :=
 cond (decide (w10 > w11)) (
 ixSl 1 w0a w0l w1 fun p21 =>
 ldS S p21.1 p21.2 fun v22 =>
 ixSl 1 w0a w0l w11 fun p23 =>
 ldS S p23.1 p23.2 fun v24 =>
 ixSl 1 w0a w0l w11 fun p25 =>
 S.stn p25.1 p25.2 [(.str v22)] fun S26 =>
 ixSl 1 w0a w0l w1 fun p27 =>
 S26.stn p27.1 p27.2 [(.str v24)] fun S28 =>
 some (.tup [(.int .i64 w11), (.bool true)], S28)) (
 ixSl 1 w0a w0l w11 fun p29 =>
 ldS S p29.1 p29.2 fun v30 =>
 ixSl 1 w0a w0l w10 fun p31 =>
 ldS S p31.1 p31.2 fun v32 =>
 ixSl 1 w0a w0l w10 fun p33 =>
 S.stn p33.1 p33.2 [(.str v30)] fun S34 =>
 ixSl 1 w0a w0l w11 fun p35 =>
 S34.stn p35.1 p35.2 [(.str v32)] fun S36 =>
 l1_1_1_1_1_1_1_1_1_0_0 w0a w0l w0c w1 (IntKind.wrap .i64 (w10 + 1)) (IntKind.wrap .i64 (w11 - 1)) S36)

def b78_l1_1_1_1_1_1_1_1_1_0_0 (call : CallA) (n : Nat)  (l1_1_1_1_1_1_1_1_1_0_0_0_0_0_0 : Option Pos → Nat → Cap → Int → Int → Int → AS → Option (AV × AS)) (w0a : Option Pos) (w0l : Nat) (w0c : Cap) (w1 : Int) (w10 : Int) (w11 : Int) (S : AS) : Option (AV × AS) :=
 l1_1_1_1_1_1_1_1_1_0_0_0_0_0_0 w0a w0l w0c w1 w10 w11 S

def b78_l1_1_1_1_1_1_1_1_1_0_0_0_0_0_0 (call : CallA) (n : Nat)  (l1_1_1_1_1_1_1_1_1_0_0_0_0_0_0 : Option Pos → Nat → Cap → Int → Int → Int → AS → Option (AV × AS)) (l1_1_1_1_1_1_1_1_1_0_0_0_0_1_0_0 : Option Pos → Nat → Cap → Int → Int → Int → AS → Option (AV × AS)) (w0a : Option Pos) (w0l : Nat) (w0c : Cap) (w1 : Int) (w10 : Int) (w11 : Int) (S : AS) : Option (AV × AS) :=
 cond (decide (w10 ≤ w11)) (
 ixSl 1 w0a w0l w10 fun p37 =>
 ldS S p37.1 p37.2 fun v38 =>
 ixSl 1 w0a w0l w1 fun p39 =>
 ldS S p39.1 p39.2 fun v40 =>
 callB call 76 [(.str v38), (.str v40)] S fun v42 S41 =>
 cond v42 (
 l1_1_1_1_1_1_1_1_1_0_0_0_0_0_0 w0a w0l w0c w1 (IntKind.wrap .i64 (w10 + 1)) w11 S41) (
 l1_1_1_1_1_1_1_1_1_0_0_0_0_1_0_0 w0a w0l w0c w1 w10 w11 S41)) (
 l1_1_1_1_1_1_1_1_1_0_0_0_0_1_0_0 w0a w0l w0c w1 w10 w11 S)

def b78_l1_1_1_1_1_1_1_1_1_0_0_0_0_1_0_0 (call : CallA) (n : Nat)  (l1_1_1_1_1_1_1_1_1_0_0_0_0_1_0_0 : Option Pos → Nat → Cap → Int → Int → Int → AS → Option (AV × AS)) (j1_1_1_1_1_1_1_1_1_0_0_0_0_1_1 : Option Pos → Nat → Cap → Int → Int → Int → AS → Option (AV × AS)) (w0a : Option Pos) (w0l : Nat) (w0c : Cap) (w1 : Int) (w10 : Int) (w11 : Int) (S : AS) : Option (AV × AS) :=
 cond (decide (w10 ≤ w11)) (
 ixSl 1 w0a w0l w11 fun p43 =>
 ldS S p43.1 p43.2 fun v44 =>
 ixSl 1 w0a w0l w1 fun p45 =>
 ldS S p45.1 p45.2 fun v46 =>
 callB call 76 [(.str v44), (.str v46)] S fun v48 S47 =>
 cond (!v48) (
 l1_1_1_1_1_1_1_1_1_0_0_0_0_1_0_0 w0a w0l w0c w1 w10 (IntKind.wrap .i64 (w11 - 1)) S47) (
 j1_1_1_1_1_1_1_1_1_0_0_0_0_1_1 w0a w0l w0c w1 w10 w11 S47)) (
 j1_1_1_1_1_1_1_1_1_0_0_0_0_1_1 w0a w0l w0c w1 w10 w11 S)

def b78_j1_1_1_1_1_1_1_1_1_0_0_0_0_1_1 (call : CallA) (n : Nat)  (j1_1_1_1_1_1_1_1_1_1 : Option Pos → Nat → Cap → Int → Int → AS → Option (AV × AS)) (l1_1_1_1_1_1_1_1_1_0_0 : Option Pos → Nat → Cap → Int → Int → Int → AS → Option (AV × AS)) (w0a : Option Pos) (w0l : Nat) (w0c : Cap) (w1 : Int) (w10 : Int) (w11 : Int) (S : AS) : Option (AV × AS) :=
 cond (decide (w10 > w11)) (
 j1_1_1_1_1_1_1_1_1_1 w0a w0l w0c w1 w11 S) (
 ixSl 1 w0a w0l w11 fun p49 =>
 ldS S p49.1 p49.2 fun v50 =>
 ixSl 1 w0a w0l w10 fun p51 =>
 ldS S p51.1 p51.2 fun v52 =>
 ixSl 1 w0a w0l w10 fun p53 =>
 S.stn p53.1 p53.2 [(.str v50)] fun S54 =>
 ixSl 1 w0a w0l w11 fun p55 =>
 S54.stn p55.1 p55.2 [(.str v52)] fun S56 =>
 l1_1_1_1_1_1_1_1_1_0_0 w0a w0l w0c w1 (IntKind.wrap .i64 (w10 + 1)) (IntKind.wrap .i64 (w11 - 1)) S56)

def b78_j1_1_1_1_1_1_1_1_1_1 (call : CallA) (n : Nat)   (w0a : Option Pos) (w0l : Nat) (w0c : Cap) (w1 : Int) (w11 : Int) (S : AS) : Option (AV × AS) :=
 ixSl 1 w0a w0l w1 fun p57 =>
 ldS S p57.1 p57.2 fun v58 =>
 ixSl 1 w0a w0l w11 fun p59 =>
 ldS S p59.1 p59.2 fun v60 =>
 ixSl 1 w0a w0l w11 fun p61 =>
 S.stn p61.1 p61.2 [(.str v58)] fun S62 =>
 ixSl 1 w0a w0l w1 fun p63 =>
 S62.stn p63.1 p63.2 [(.str v60)] fun S64 =>
 some (.tup [(.int .i64 w11), (.bool false)], S64)

def b78_entry (call : CallA) (n : Nat)  (l1_1_1_0_0 : Option Pos → Nat → Cap → Int → Int → Int → AS → Option (AV × AS)) (x0a : Option Pos) (x0l : Nat) (x0c : Cap) (x1 : Int) (x2 : Int) (x3 : Int) (S : AS) : Option (AV × AS) :=
 ixSl 1 x0a x0l x3 fun p1 =>
 ldS S p1.1 p1.2 fun v2 =>
 ixSl 1 x0a x0l x1 fun p3 =>
 ldS S p3.1 p3.2 fun v4 =>
 ixSl 1 x0a x0l x1 fun p5 =>
 S.stn p5.1 p5.2 [(.str v2)] fun S6 =>
 ixSl 1 x0a x0l x3 fun p7 =>
 S6.stn p7.1 p7.2 [(.str v4)] fun S8 =>
 l1_1_1_0_0 x0a x0l x0c x1 (IntKind.wrap .i64 (x1 + 1)) (IntKind.wrap .i64 (x2 - 1)) S8

def r78_l1_1_1_0_0 (call : CallA) (n : Nat)  (m : Nat) (w0a : Option Pos) (w0l : Nat) (w0c : Cap) (w1 : Int) (w10 : Int) (w11 : Int) (S : AS) : Option (AV × AS) := loopN (evC E call n 78 (E.at 78 [1, 1, 1, 0, 0, 0]) 0) [0, 1, 10, 11] m [(0, (.sl w0a w0l w0c)), (1, (.int .i64 w1)), (10, (.int .i64 w10)), (11, (.int .i64 w11))] S (kBlk 0 (kSeq E call n 78 (E.at 78 [1, 1, 1, 1]) 0 (retK E (E.fn 78))))
def r78_l1_1_1_1_0_0 (call : CallA) (n : Nat)  (m : Nat) (w0a : Option Pos) (w0l : Nat) (w0c : Cap) (w1 : Int) (w10 : Int) (w11 : Int) (S : AS) : Option (AV × AS) := loopN (evC E call n 78 (E.at 78 [1, 1, 1, 1, 0, 0, 0]) 2) [0, 1, 10, 11] m [(0, (.sl w0a w0l w0c)), (1, (.int .i64 w1)), (10, (.int .i64 w10)), (11, (.int .i64 w11))] S (kBlk 2 (kSeq E call n 78 (E.at 78 [1, 1, 1, 1, 1]) 0 (retK E (E.fn 78))))
def r78_j1_1_1_1_1 (call : CallA) (n : Nat)  (w0a : Option Pos) (w0l : Nat) (w0c : Cap) (w1 : Int) (w10 : Int) (w11 : Int) (S : AS) : Option (AV × AS) := evC E call n 78 (E.at 78 [1, 1, 1, 1, 1]) 0 [(0, (.sl w0a w0l w0c)), (1, (.int .i64 w1)), (10, (.int .i64 w10)), (11, (.int .i64 w11))] S (retK E (E.fn 78))
def r78_l1_1_1_1_1_1_1_1_1_0_0 (call : CallA) (n : Nat)  (m : Nat) (w0a : Option Pos) (w0l : Nat) (w0c : Cap) (w1 : Int) (w10 : Int) (w11 : Int) (S : AS) : Option (AV × AS) := loopN (evC E call n 78 (E.at 78 [1, 1, 1, 1, 1, 1, 1, 1, 1, 0, 0, 0]) 4) [0, 1, 10, 11] m [(0, (.sl w0a w0l w0c)), (1, (.int .i64 w1)), (10, (.int .i64 w10)), (11, (.int .i64 w11))] S (kBlk 4 (kSeq E call n 78 (E.at 78 [1, 1, 1, 1, 1, 1, 1, 1, 1, 1]) 0 (retK E (E.fn 78))))
def r78_l1_1_1_1_1_1_1_1_1_0_0_0_0_0_0 (call : CallA) (n : Nat) (m1_1_1_1_1_1_1_1_1_0_0 : Nat) (m : Nat) (w0a : Option Pos) (w0l : Nat) (w0c : Cap) (w1 : Int) (w10 : Int) (w11 : Int) (S : AS) : Option (AV × AS) := loopN (evC E call n 78 (E.at 78 [1, 1, 1, 1, 1, 1, 1, 1, 1, 0, 0, 0, 0, 0, 0, 0]) 6) [0, 1, 10, 11] m [(0, (.sl w0a w0l w0c)), (1, (.int .i64 w1)), (10, (.int .i64 w10)), (11, (.int .i64 w11))] S (kBlk 6 (kSeq E call n 78 (E.at 78 [1, 1, 1, 1, 1, 1, 1, 1, 1, 0, 0, 0, 0, 1]) 5 (kBlk 5 (kLp (evC E call n 78 (E.at 78 [1, 1, 1, 1, 1, 1, 1, 1, 1, 0, 0, 0]) 4) [0, 1, 10, 11] m1_1_1_1_1_1_1_1_1_0_0 (kBlk 4 (kSeq E call n 78 (E.at 78 [1, 1, 1, 1, 1, 1, 1, 1, 1, 1]) 0 (retK E (E.fn 78))))))))
def r78_l1_1_1_1_1_1_1_1_1_0_0_0_0_1_0_0 (call : CallA) (n : Nat) (m1_1_1_1_1_1_1_1_1_0_0 : Nat) (m : Nat) (w0a : Option Pos) (w0l : Nat) (w0c : Cap) (w1 : Int) (w10 : Int) (w11 : Int) (S : AS) : Option (AV × AS) := loopN (evC E call n 78 (E.at 78 [1, 1, 1, 1, 1, 1, 1, 1, 1, 0, 0, 0, 0, 1, 0, 0, 0]) 8) [0, 1, 10, 11] m [(0, (.sl w0a w0l w0c)), (1, (.int .i64 w1)), (10, (.int .i64 w10)), (11, (.int .i64 w11))] S (kBlk 8 (kSeq E call n 78 (E.at 78 [1, 1, 1, 1, 1, 1, 1, 1, 1, 0, 0, 0, 0, 1, 1]) 5 (kBlk 5 (kLp (evC E call n 78 (E.at 78 [1, 1, 1, 1, 1, 1, 1, 1, 1, 0, 0, 0]) 4) [0, 1, 10, 11] m1_1_1_1_1_1_1_1_1_0_0 (kBlk 4 (kSeq E call n 78 (E.at 78 [1, 1, 1, 1, 1, 1, 1, 1, 1, 1]) 0 (retK E (E.fn 78))))))))
def r78_j1_1_1_1_1_1_1_1_1_0_0_0_0_1_1 (call : CallA) (n : Nat) (m1_1_1_1_1_1_1_1_1_0_0 : Nat) (w0a : Option Pos) (w0l : Nat) (w0c : Cap) (w1 : Int) (w10 : Int) (w11 : Int) (S : AS) : Option (AV × AS) := evC E call n 78 (E.at 78 [1, 1, 1, 1, 1, 1, 1, 1, 1, 0, 0, 0, 0, 1, 1]) 5 [(0, (.sl w0a w0l w0c)), (1, (.int .i64 w1)), (10, (.int .i64 w10)), (11, (.int .i64 w11))] S (kBlk 5 (kLp (evC E call n 78 (E.at 78 [1, 1, 1, 1, 1, 1, 1, 1, 1, 0, 0, 0]) 4) [0, 1, 10, 11] m1_1_1_1_1_1_1_1_1_0_0 (kBlk 4 (kSeq E call n 78 (E.at 78 [1, 1, 1, 1, 1, 1, 1, 1, 1, 1]) 0 (retK E (E.fn 78))))))
def r78_j1_1_1_1_1_1_1_1_1_1 (call : CallA) (n : Nat)  (w0a : Option Pos) (w0l : Nat) (w0c : Cap) (w1 : Int) (w11 : Int) (S : AS) : Option (AV × AS) := evC E call n 78 (E.at 78 [1, 1, 1, 1, 1, 1, 1, 1, 1, 1]) 0 [(0, (.sl w0a w0l w0c)), (1, (.int .i64 w1)), (11, (.int .i64 w11))] S (retK E (E.fn 78))
theorem a78_l1_1_1_0_0 (call : CallA) (n : Nat)  (m : Nat) (w0a : Option Pos) (w0l : Nat) (w0c : Cap) (w1 : Int) (w10 : Int) (w11 : Int) (S : AS) : r78_l1_1_1_0_0 call n  (m + 1) w0a w0l w0c w1 w10 w11 S = b78_l1_1_1_0_0 call n (r78_l1_1_1_0_0 call n  m) (r78_l1_1_1_1_0_0 call n  n) w0a w0l w0c w1 w10 w11 S := by kernel_rfl
theorem a78_l1_1_1_1_0_0 (call : CallA) (n : Nat)  (m : Nat) (w0a : Option Pos) (w0l : Nat) (w0c : Cap) (w1 : Int) (w10 : Int) (w11 : Int) (S : AS) : r78_l1_1_1_1_0_0 call n  (m + 1) w0a w0l w0c w1 w10 w11 S = b78_l1_1_1_1_0_0 call n (r78_l1_1_1_1_0_0 call n  m) (r78_j1_1_1_1_1 call n ) w0a w0l w0c w1 w10 w11 S := by kernel_rfl
theorem a78_j1_1_1_1_1 (call : CallA) (n : Nat)  (w0a : Option Pos) (w0l : Nat) (w0c : Cap) (w1 : Int) (w10 : Int) (w11 : Int) (S : AS) : r78_j1_1_1_1_1 call n  w0a w0l w0c w1 w10 w11 S = b78_j1_1_1_1_1 call n (r78_l1_1_1_1_1_1_1_1_1_0_0 call n  n) w0a w0l w0c w1 w10 w11 S := by kernel_rfl
theorem a78_l1_1_1_1_1_1_1_1_1_0_0 (call : CallA) (n : Nat)  (m : Nat) (w0a : Option Pos) (w0l : Nat) (w0c : Cap) (w1 : Int) (w10 : Int) (w11 : Int) (S : AS) : r78_l1_1_1_1_1_1_1_1_1_0_0 call n  (m + 1) w0a w0l w0c w1 w10 w11 S = b78_l1_1_1_1_1_1_1_1_1_0_0 call n (r78_l1_1_1_1_1_1_1_1_1_0_0_0_0_0_0 call n m n) w0a w0l w0c w1 w10 w11 S := by kernel_rfl
theorem a78_l1_1_1_1_1_1_1_1_1_0_0_0_0_0_0 (call : CallA) (n : Nat) (m1_1_1_1_1_1_1_1_1_0_0 : Nat) (m : Nat) (w0a : Option Pos) (w0l : Nat) (w0c : Cap) (w1 : Int) (w10 : Int) (w11 : Int) (S : AS) : r78_l1_1_1_1_1_1_1_1_1_0_0_0_0_0_0 call n m1_1_1_1_1_1_1_1_1_0_0 (m + 1) w0a w0l w0c w1 w10 w11 S = b78_l1_1_1_1_1_1_1_1_1_0_0_0_0_0_0 call n (r78_l1_1_1_1_1_1_1_1_1_0_0_0_0_0_0 call n m1_1_1_1_1_1_1_1_1_0_0 m) (r78_l1_1_1_1_1_1_1_1_1_0_0_0_0_1_0_0 call n m1_1_1_1_1_1_1_1_1_0_0 n) w0a w0l w0c w1 w10 w11 S := by kernel_rfl
theorem a78_l1_1_1_1_1_1_1_1_1_0_0_0_0_1_0_0 (call : CallA) (n : Nat) (m1_1_1_1_1_1_1_1_1_0_0 : Nat) (m : Nat) (w0a : Option Pos) (w0l : Nat) (w0c : Cap) (w1 : Int) (w10 : Int) (w11 : Int) (S : AS) : r78_l1_1_1_1_1_1_1_1_1_0_0_0_0_1_0_0 call n m1_1_1_1_1_1_1_1_1_0_0 (m + 1) w0a w0l w0c w1 w10 w11 S = b78_l1_1_1_1_1_1_1_1_1_0_0_0_0_1_0_0 call n (r78_l1_1_1_1_1_1_1_1_1_0_0_0_0_1_0_0 call n m1_1_1_1_1_1_1_1_1_0_0 m) (r78_j1_1_1_1_1_1_1_1_1_0_0_0_0_1_1 call n m1_1_1_1_1_1_1_1_1_0_0) w0a w0l w0c w1 w10 w11 S := by kernel_rfl
theorem a78_j1_1_1_1_1_1_1_1_1_0_0_0_0_1_1 (call : CallA) (n : Nat) (m1_1_1_1_1_1_1_1_1_0_0 : Nat) (w0a : Option Pos) (w0l : Nat) (w0c : Cap) (w1 : Int) (w10 : Int) (w11 : Int) (S : AS) : r78_j1_1_1_1_1_1_1_1_1_0_0_0_0_1_1 call n m1_1_1_1_1_1_1_1_1_0_0 w0a w0l w0c w1 w10 w11 S = b78_j1_1_1_1_1_1_1_1_1_0_0_0_0_1_1 call n (r78_j1_1_1_1_1_1_1_1_1_1 call n ) (r78_l1_1_1_1_1_1_1_1_1_0_0 call n  m1_1_1_1_1_1_1_1_1_0_0) w0a w0l w0c w1 w10 w11 S := by kernel_rfl
theorem a78_j1_1_1_1_1_1_1_1_1_1 (call : CallA) (n : Nat)  (w0a : Option Pos) (w0l : Nat) (w0c : Cap) (w1 : Int) (w11 : Int) (S : AS) : r78_j1_1_1_1_1_1_1_1_1_1 call n  w0a w0l w0c w1 w11 S = b78_j1_1_1_1_1_1_1_1_1_1 call n  w0a w0l w0c w1 w11 S := by kernel_rfl
theorem a78_entry (call : CallA) (n : Nat) (x0a : Option Pos) (x0l : Nat) (x0c : Cap) (x1 : Int) (x2 : Int) (x3 : Int) (S : AS) : evC E call n 78 (E.at 78 []) 0 (enumT 0 [(.sl x0a x0l x0c), (.int .i64 x1), (.int .i64 x2), (.int .i64 x3)]) S (retK E (E.fn 78)) = b78_entry call n (r78_l1_1_1_0_0 call n  n) x0a x0l x0c x1 x2 x3 S := by kernel_rfl
def J78_j1_1_1_1_1_1_1_1_1_1 (call : CallA) (n : Nat)  (w0a : Option Pos) (w0l : Nat) (w0c : Cap) (w1 : Int) (w11 : Int) (S : AS) : Option (AV × AS) := b78_j1_1_1_1_1_1_1_1_1_1 call n  w0a w0l w0c w1 w11 S
theorem h78_j1_1_1_1_1_1_1_1_1_1 (call : CallA) (n : Nat)  : r78_j1_1_1_1_1_1_1_1_1_1 call n  = J78_j1_1_1_1_1_1_1_1_1_1 call n  := by
  funext w0a w0l w0c w1 w11 S
  rw [J78_j1_1_1_1_1_1_1_1_1_1, a78_j1_1_1_1_1_1_1_1_1_1]
def J78_j1_1_1_1_1_1_1_1_1_0_0_0_0_1_1 (call : CallA) (n : Nat) (n1_1_1_1_1_1_1_1_1_0_0 : Option Pos → Nat → Cap → Int → Int → Int → AS → Option (AV × AS)) (w0a : Option Pos) (w0l : Nat) (w0c : Cap) (w1 : Int) (w10 : Int) (w11 : Int) (S : AS) : Option (AV × AS) := b78_j1_1_1_1_1_1_1_1_1_0_0_0_0_1_1 call n (J78_j1_1_1_1_1_1_1_1_1_1 call n ) n1_1_1_1_1_1_1_1_1_0_0 w0a w0l w0c w1 w10 w11 S
theorem h78_j1_1_1_1_1_1_1_1_1_0_0_0_0_1_1 (call : CallA) (n : Nat) (m1_1_1_1_1_1_1_1_1_0_0 : Nat) : r78_j1_1_1_1_1_1_1_1_1_0_0_0_0_1_1 call n m1_1_1_1_1_1_1_1_1_0_0 = J78_j1_1_1_1_1_1_1_1_1_0_0_0_0_1_1 call n (r78_l1_1_1_1_1_1_1_1_1_0_0 call n  m1_1_1_1_1_1_1_1_1_0_0) := by
  funext w0a w0l w0c w1 w10 w11 S
  rw [J78_j1_1_1_1_1_1_1_1_1_0_0_0_0_1_1, a78_j1_1_1_1_1_1_1_1_1_0_0_0_0_1_1, h78_j1_1_1_1_1_1_1_1_1_1 call n ]
def J78_l1_1_1_1_1_1_1_1_1_0_0_0_0_1_0_0 (call : CallA) (n : Nat) (n1_1_1_1_1_1_1_1_1_0_0 : Option Pos → Nat → Cap → Int → Int → Int → AS → Option (AV × AS)) (m : Nat) : Option Pos → Nat → Cap → Int → Int → Int → AS → Option (AV × AS) := Nat.rec (motive := fun _ => Option Pos → Nat → Cap → Int → Int → Int → AS → Option (AV × AS)) (fun _ _ _ _ _ _ _ => none) (fun mK ih w0a w0l w0c w1 w10 w11 S => b78_l1_1_1_1_1_1_1_1_1_0_0_0_0_1_0_0 call n ih (J78_j1_1_1_1_1_1_1_1_1_0_0_0_0_1_1 call n n1_1_1_1_1_1_1_1_1_0_0) w0a w0l w0c w1 w10 w11 S) m
theorem J78_l1_1_1_1_1_1_1_1_1_0_0_0_0_1_0_0_succ (call : CallA) (n : Nat) (n1_1_1_1_1_1_1_1_1_0_0 : Option Pos → Nat → Cap → Int → Int → Int → AS → Option (AV × AS)) (m : Nat) (w0a : Option Pos) (w0l : Nat) (w0c : Cap) (w1 : Int) (w10 : Int) (w11 : Int) (S : AS) : J78_l1_1_1_1_1_1_1_1_1_0_0_0_0_1_0_0 call n n1_1_1_1_1_1_1_1_1_0_0 (m + 1) w0a w0l w0c w1 w10 w11 S = b78_l1_1_1_1_1_1_1_1_1_0_0_0_0_1_0_0 call n (J78_l1_1_1_1_1_1_1_1_1_0_0_0_0_1_0_0 call n n1_1_1_1_1_1_1_1_1_0_0 m) (J78_j1_1_1_1_1_1_1_1_1_0_0_0_0_1_1 call n n1_1_1_1_1_1_1_1_1_0_0) w0a w0l w0c w1 w10 w11 S := rfl
theorem h78_l1_1_1_1_1_1_1_1_1_0_0_0_0_1_0_0 (call : CallA) (n : Nat) (m1_1_1_1_1_1_1_1_1_0_0 : Nat) (m : Nat) : r78_l1_1_1_1_1_1_1_1_1_0_0_0_0_1_0_0 call n m1_1_1_1_1_1_1_1_1_0_0 m = J78_l1_1_1_1_1_1_1_1_1_0_0_0_0_1_0_0 call n (r78_l1_1_1_1_1_1_1_1_1_0_0 call n  m1_1_1_1_1_1_1_1_1_0_0) m := by
  induction m with
  | zero => rfl
  | succ m ih =>
    funext w0a w0l w0c w1 w10 w11 S
    rw [J78_l1_1_1_1_1_1_1_1_1_0_0_0_0_1_0_0_succ, a78_l1_1_1_1_1_1_1_1_1_0_0_0_0_1_0_0, h78_j1_1_1_1_1_1_1_1_1_0_0_0_0_1_1 call n m1_1_1_1_1_1_1_1_1_0_0, ih]
def J78_l1_1_1_1_1_1_1_1_1_0_0_0_0_0_0 (call : CallA) (n : Nat) (n1_1_1_1_1_1_1_1_1_0_0 : Option Pos → Nat → Cap → Int → Int → Int → AS → Option (AV × AS)) (m : Nat) : Option Pos → Nat → Cap → Int → Int → Int → AS → Option (AV × AS) := Nat.rec (motive := fun _ => Option Pos → Nat → Cap → Int → Int → Int → AS → Option (AV × AS)) (fun _ _ _ _ _ _ _ => none) (fun mK ih w0a w0l w0c w1 w10 w11 S => b78_l1_1_1_1_1_1_1_1_1_0_0_0_0_0_0 call n ih (J78_l1_1_1_1_1_1_1_1_1_0_0_0_0_1_0_0 call n n1_1_1_1_1_1_1_1_1_0_0 n) w0a w0l w0c w1 w10 w11 S) m
theorem J78_l1_1_1_1_1_1_1_1_1_0_0_0_0_0_0_succ (call : CallA) (n : Nat) (n1_1_1_1_1_1_1_1_1_0_0 : Option Pos → Nat → Cap → Int → Int → Int → AS → Option (AV × AS)) (m : Nat) (w0a : Option Pos) (w0l : Nat) (w0c : Cap) (w1 : Int) (w10 : Int) (w11 : Int) (S : AS) : J78_l1_1_1_1_1_1_1_1_1_0_0_0_0_0_0 call n n1_1_1_1_1_1_1_1_1_0_0 (m + 1) w0a w0l w0c w1 w10 w11 S = b78_l1_1_1_1_1_1_1_1_1_0_0_0_0_0_0 call n (J78_l1_1_1_1_1_1_1_1_1_0_0_0_0_0_0 call n n1_1_1_1_1_1_1_1_1_0_0 m) (J78_l1_1_1_1_1_1_1_1_1_0_0_0_0_1_0_0 call n n1_1_1_1_1_1_1_1_1_0_0 n) w0a w0l w0c w1 w10 w11 S := rfl
theorem h78_l1_1_1_1_1_1_1_1_1_0_0_0_0_0_0 (call : CallA) (n : Nat) (m1_1_1_1_1_1_1_1_1_0_0 : Nat) (m : Nat) : r78_l1_1_1_1_1_1_1_1_1_0_0_0_0_0_0 call n m1_1_1_1_1_1_1_1_1_0_0 m = J78_l1_1_1_1_1_1_1_1_1_0_0_0_0_0_0 call n (r78_l1_1_1_1_1_1_1_1_1_0_0 call n  m1_1_1_1_1_1_1_1_1_0_0) m := by
  induction m with
  | zero => rfl
  | succ m ih =>
    funext w0a w0l w0c w1 w10 w11 S
    rw [J78_l1_1_1_1_1_1_1_1_1_0_0_0_0_0_0_succ, a78_l1_1_1_1_1_1_1_1_1_0_0_0_0_0_0, h78_l1_1_1_1_1_1_1_1_1_0_0_0_0_1_0_0 call n m1_1_1_1_1_1_1_1_1_0_0 n, ih]
def J78_l1_1_1_1_1_1_1_1_1_0_0 (call : CallA) (n : Nat)  (m : Nat) : Option Pos → Nat → Cap → Int → Int → Int → AS → Option (AV × AS) := Nat.rec (motive := fun _ => Option Pos → Nat → Cap → Int → Int → Int → AS → Option (AV × AS)) (fun _ _ _ _ _ _ _ => none) (fun mK ih w0a w0l w0c w1 w10 w11 S => b78_l1_1_1_1_1_1_1_1_1_0_0 call n (J78_l1_1_1_1_1_1_1_1_1_0_0_0_0_0_0 call n ih n) w0a w0l w0c w1 w10 w11 S) m
theorem J78_l1_1_1_1_1_1_1_1_1_0_0_succ (call : CallA) (n : Nat)  (m : Nat) (w0a : Option Pos) (w0l : Nat) (w0c : Cap) (w1 : Int) (w10 : Int) (w11 : Int) (S : AS) : J78_l1_1_1_1_1_1_1_1_1_0_0 call n  (m + 1) w0a w0l w0c w1 w10 w11 S = b78_l1_1_1_1_1_1_1_1_1_0_0 call n (J78_l1_1_1_1_1_1_1_1_1_0_0_0_0_0_0 call n (J78_l1_1_1_1_1_1_1_1_1_0_0 call n  m) n) w0a w0l w0c w1 w10 w11 S := rfl
theorem h78_l1_1_1_1_1_1_1_1_1_0_0 (call : CallA) (n : Nat)  (m : Nat) : r78_l1_1_1_1_1_1_1_1_1_0_0 call n  m = J78_l1_1_1_1_1_1_1_1_1_0_0 call n  m := by
  induction m with
  | zero => rfl
  | succ m ih =>
    funext w0a w0l w0c w1 w10 w11 S
    rw [J78_l1_1_1_1_1_1_1_1_1_0_0_succ, a78_l1_1_1_1_1_1_1_1_1_0_0, h78_l1_1_1_1_1_1_1_1_1_0_0_0_0_0_0 call n m n, ih]
def J78_j1_1_1_1_1 (call : CallA) (n : Nat)  (w0a : Option Pos) (w0l : Nat) (w0c : Cap) (w1 : Int) (w10 : Int) (w11 : Int) (S : AS) : Option (AV × AS) := b78_j1_1_1_1_1 call n (J78_l1_1_1_1_1_1_1_1_1_0_0 call n  n) w0a w0l w0c w1 w10 w11 S
theorem h78_j1_1_1_1_1 (call : CallA) (n : Nat)  : r78_j1_1_1_1_1 call n  = J78_j1_1_1_1_1 call n  := by
  funext w0a w0l w0c w1 w10 w11 S
  rw [J78_j1_1_1_1_1, a78_j1_1_1_1_1, h78_l1_1_1_1_1_1_1_1_1_0_0 call n  n]
def J78_l1_1_1_1_0_0 (call : CallA) (n : Nat)  (m : Nat) : Option Pos → Nat → Cap → Int → Int → Int → AS → Option (AV × AS) := Nat.rec (motive := fun _ => Option Pos → Nat → Cap → Int → Int → Int → AS → Option (AV × AS)) (fun _ _ _ _ _ _ _ => none) (fun mK ih w0a w0l w0c w1 w10 w11 S => b78_l1_1_1_1_0_0 call n ih (J78_j1_1_1_1_1 call n ) w0a w0l w0c w1 w10 w11 S) m
theorem J78_l1_1_1_1_0_0_succ (call : CallA) (n : Nat)  (m : Nat) (w0a : Option Pos) (w0l : Nat) (w0c : Cap) (w1 : Int) (w10 : Int) (w11 : Int) (S : AS) : J78_l1_1_1_1_0_0 call n  (m + 1) w0a w0l w0c w1 w10 w11 S = b78_l1_1_1_1_0_0 call n (J78_l1_1_1_1_0_0 call n  m) (J78_j1_1_1_1_1 call n ) w0a w0l w0c w1 w10 w11 S := rfl
theorem h78_l1_1_1_1_0_0 (call : CallA) (n : Nat)  (m : Nat) : r78_l1_1_1_1_0_0 call n  m = J78_l1_1_1_1_0_0 call n  m := by
  induction m with
  | zero => rfl
  | succ m ih =>
    funext w0a w0l w0c w1 w10 w11 S
    rw [J78_l1_1_1_1_0_0_succ, a78_l1_1_1_1_0_0, h78_j1_1_1_1_1 call n , ih]
def J78_l1_1_1_0_0 (call : CallA) (n : Nat)  (m : Nat) : Option Pos → Nat → Cap → Int → Int → Int → AS → Option (AV × AS) := Nat.rec (motive := fun _ => Option Pos → Nat → Cap → Int → Int → Int → AS → Option (AV × AS)) (fun _ _ _ _ _ _ _ => none) (fun mK ih w0a w0l w0c w1 w10 w11 S => b78_l1_1_1_0_0 call n ih (J78_l1_1_1_1_0_0 call n  n) w0a w0l w0c w1 w10 w11 S) m
theorem J78_l1_1_1_0_0_succ (call : CallA) (n : Nat)  (m : Nat) (w0a : Option Pos) (w0l : Nat) (w0c : Cap) (w1 : Int) (w10 : Int) (w11 : Int) (S : AS) : J78_l1_1_1_0_0 call n  (m + 1) w0a w0l w0c w1 w10 w11 S = b78_l1_1_1_0_0 call n (J78_l1_1_1_0_0 call n  m) (J78_l1_1_1_1_0_0 call n  n) w0a w0l w0c w1 w10 w11 S := rfl
theorem h78_l1_1_1_0_0 (call : CallA) (n : Nat)  (m : Nat) : r78_l1_1_1_0_0 call n  m = J78_l1_1_1_0_0 call n  m := by
  induction m with
  | zero => rfl
  | succ m ih =>
    funext w0a w0l w0c w1 w10 w11 S
    rw [J78_l1_1_1_0_0_succ, a78_l1_1_1_0_0, h78_l1_1_1_1_0_0 call n  n, ih]
def J78 (call : CallA) (n : Nat) (x0a : Option Pos) (x0l : Nat) (x0c : Cap) (x1 : Int) (x2 : Int) (x3 : Int) (S : AS) : Option (AV × AS) := b78_entry call n (J78_l1_1_1_0_0 call n  n) x0a x0l x0c x1 x2 x3 S
theorem run78 (o : Orc) (n : Nat) (args : List AV) (S : AS) (ho : o 78 args = none) : evF E o (n + 1) (.fn 78) args S = evC E (evF E o n) n 78 (E.at 78 []) 0 (enumT 0 args) S (retK E (E.fn 78)) := by
  rw [evF, ho]; kernel_rfl
theorem J78_eq (call : CallA) (n : Nat) (x0a : Option Pos) (x0l : Nat) (x0c : Cap) (x1 : Int) (x2 : Int) (x3 : Int) (S : AS) : evC E call n 78 (E.at 78 []) 0 (enumT 0 [(.sl x0a x0l x0c), (.int .i64 x1), (.int .i64 x2), (.int .i64 x3)]) S (retK E (E.fn 78)) = J78 call n x0a x0l x0c x1 x2 x3 S := by
  rw [J78, a78_entry, h78_l1_1_1_0_0 call n  n]
theorem F78 {o : Orc} (n : Nat) (x0a : Option Pos) (x0l : Nat) (x0c : Cap) (x1 : Int) (x2 : Int) (x3 : Int) (S : AS) (ho : ∀ args, o 78 args = none) : evF E o (n + 1) (.fn 78) [(.sl x0a x0l x0c), (.int .i64 x1), (.int .i64 x2), (.int .i64 x3)] S = J78 (evF E o n) n x0a x0l x0c x1 x2 x3 S := (run78 o n [(.sl x0a x0l x0c), (.int .i64 x1), (.int .i64 x2), (.int .i64 x3)] S (ho _)).trans (J78_eq _ _ x0a x0l x0c x1 x2 x3 S)
def b79_entry (call : CallA) (n : Nat)   (x0 : Int) (S : AS) : Option (AV × AS) :=
 cond (decide (x0 ≥ 65536)) (
 cond (decide ((shrI .u32 x0 16) ≥ 256)) (
 ixStr ([0, 1, 2, 2, 3, 3, 3, 3, 4, 4, 4, 4, 4, 4, 4, 4, 5, 5, 5, 5, 5, 5, 5, 5, 5, 5, 5, 5, 5, 5, 5, 5, 6, 6, 6, 6, 6, 6, 6, 6, 6, 6, 6, 6, 6, 6, 6, 6, 6, 6, 6, 6, 6, 6, 6, 6, 6, 6, 6, 6, 6, 6, 6, 6, 7, 7, 7, 7, 7, 7, 7, 7, 7, 7, 7, 7, 7, 7, 7, 7, 7, 7, 7, 7, 7, 7, 7, 7, 7, 7, 7, 7, 7, 7, 7, 7, 7, 7, 7, 7, 7, 7, 7, 7, 7, 7, 7, 7, 7, 7, 7, 7, 7, 7, 7, 7, 7, 7, 7, 7, 7, 7, 7, 7, 7, 7, 7, 7, 8, 8, 8, 8, 8, 8, 8, 8, 8, 8, 8, 8, 8, 8, 8, 8, 8, 8, 8, 8, 8, 8, 8, 8, 8, 8, 8, 8, 8, 8, 8, 8, 8, 8, 8, 8, 8, 8, 8, 8, 8, 8, 8, 8, 8, 8, 8, 8, 8, 8, 8, 8, 8, 8, 8, 8, 8, 8, 8, 8, 8, 8, 8, 8, 8, 8, 8, 8, 8, 8, 8, 8, 8, 8, 8, 8, 8, 8, 8, 8, 8, 8, 8, 8, 8, 8, 8, 8, 8, 8, 8, 8, 8, 8, 8, 8, 8, 8, 8, 8, 8, 8, 8, 8, 8, 8, 8, 8, 8, 8, 8, 8, 8, 8, 8, 8, 8, 8, 8, 8, 8, 8, 8, 8, 8, 8, 8, 8]) (IntKind.wrap .u8 (shrI .u32 (shrI .u32 x0 16) 8)) fun v1 =>
 some ((.int .i64 (IntKind.wrap .i64 ((IntKind.wrap .i64 (16 + 8)) + (IntKind.wrap .i64 v1)))), S)) (
 ixStr ([0, 1, 2, 2, 3, 3, 3, 3, 4, 4, 4, 4, 4, 4, 4, 4, 5, 5, 5, 5, 5, 5, 5, 5, 5, 5, 5, 5, 5, 5, 5, 5, 6, 6, 6, 6, 6, 6, 6, 6, 6, 6, 6, 6, 6, 6, 6, 6, 6, 6, 6, 6, 6, 6, 6, 6, 6, 6, 6, 6, 6, 6, 6, 6, 7, 7, 7, 7, 7, 7, 7, 7, 7, 7, 7, 7, 7, 7, 7, 7, 7, 7, 7, 7, 7, 7, 7, 7, 7, 7, 7, 7, 7, 7, 7, 7, 7, 7, 7, 7, 7, 7, 7, 7, 7, 7, 7, 7, 7, 7, 7, 7, 7, 7, 7, 7, 7, 7, 7, 7, 7, 7, 7, 7, 7, 7, 7, 7, 8, 8, 8, 8, 8, 8, 8, 8, 8, 8, 8, 8, 8, 8, 8, 8, 8, 8, 8, 8, 8, 8, 8, 8, 8, 8, 8, 8, 8, 8, 8, 8, 8, 8, 8, 8, 8, 8, 8, 8, 8, 8, 8, 8, 8, 8, 8, 8, 8, 8, 8, 8, 8, 8, 8, 8, 8, 8, 8, 8, 8, 8, 8, 8, 8, 8, 8, 8, 8, 8, 8, 8, 8, 8, 8, 8, 8, 8, 8, 8, 8, 8, 8, 8, 8, 8, 8, 8, 8, 8, 8, 8, 8, 8, 8, 8, 8, 8, 8, 8, 8, 8, 8, 8, 8, 8, 8, 8, 8, 8, 8, 8, 8, 8, 8, 8, 8, 8, 8, 8, 8, 8, 8, 8, 8, 8, 8, 8]) (IntKind.wrap .u8 (shrI .u32 x0 16)) fun v2 =>
 some ((.int .i64 (IntKind.wrap .i64 (16 + (IntKind.wrap .i64 v2)))), S))) (
 cond (decide (x0 ≥ 256)) (
 ixStr ([0, 1, 2, 2, 3, 3, 3, 3, 4, 4, 4, 4, 4, 4, 4, 4, 5, 5, 5, 5, 5, 5, 5, 5, 5, 5, 5, 5, 5, 5, 5, 5, 6, 6, 6, 6, 6, 6, 6, 6, 6, 6, 6, 6, 6, 6, 6, 6, 6, 6, 6, 6, 6, 6, 6, 6, 6, 6, 6, 6, 6, 6, 6, 6, 7, 7, 7, 7, 7, 7, 7, 7, 7, 7, 7, 7, 7, 7, 7, 7, 7, 7, 7, 7, 7, 7, 7, 7, 7, 7, 7, 7, 7, 7, 7, 7, 7, 7, 7, 7, 7, 7, 7, 7, 7, 7, 7, 7, 7, 7, 7, 7, 7, 7, 7, 7, 7, 7, 7, 7, 7, 7, 7, 7, 7, 7, 7, 7, 8, 8, 8, 8, 8, 8, 8, 8, 8, 8, 8, 8, 8, 8, 8, 8, 8, 8, 8, 8, 8, 8, 8, 8, 8, 8, 8, 8, 8, 8, 8, 8, 8, 8, 8, 8, 8, 8, 8, 8, 8, 8, 8, 8, 8, 8, 8, 8, 8, 8, 8, 8, 8, 8, 8, 8, 8, 8, 8, 8, 8, 8, 8, 8, 8, 8, 8, 8, 8, 8, 8, 8, 8, 8, 8, 8, 8, 8, 8, 8, 8, 8, 8, 8, 8, 8, 8, 8, 8, 8, 8, 8, 8, 8, 8, 8, 8, 8, 8, 8, 8, 8, 8, 8, 8, 8, 8, 8, 8, 8, 8, 8, 8, 8, 8, 8, 8, 8, 8, 8, 8, 8, 8, 8, 8, 8, 8, 8]) (IntKind.wrap .u8 (shrI .u32 x0 8)) fun v3 =>
 some ((.int .i64 (IntKind.wrap .i64 ((IntKind.wrap .i64 (0 + 8)) + (IntKind.wrap .i64 v3)))), S)) (
 ixStr ([0, 1, 2, 2, 3, 3, 3, 3, 4, 4, 4, 4, 4, 4, 4, 4, 5, 5, 5, 5, 5, 5, 5, 5, 5, 5, 5, 5, 5, 5, 5, 5, 6, 6, 6, 6, 6, 6, 6, 6, 6, 6, 6, 6, 6, 6, 6, 6, 6, 6, 6, 6, 6, 6, 6, 6, 6, 6, 6, 6, 6, 6, 6, 6, 7, 7, 7, 7, 7, 7, 7, 7, 7, 7, 7, 7, 7, 7, 7, 7, 7, 7, 7, 7, 7, 7, 7, 7, 7, 7, 7, 7, 7, 7, 7, 7, 7, 7, 7, 7, 7, 7, 7, 7, 7, 7, 7, 7, 7, 7, 7, 7, 7, 7, 7, 7, 7, 7, 7, 7, 7, 7, 7, 7, 7, 7, 7, 7, 8, 8, 8, 8, 8, 8, 8, 8, 8, 8, 8, 8, 8, 8, 8, 8, 8, 8, 8, 8, 8, 8, 8, 8, 8, 8, 8, 8, 8, 8, 8, 8, 8, 8, 8, 8, 8, 8, 8, 8, 8, 8, 8, 8, 8, 8, 8, 8, 8, 8, 8, 8, 8, 8, 8, 8, 8, 8, 8, 8, 8, 8, 8, 8, 8, 8, 8, 8, 8, 8, 8, 8, 8, 8, 8, 8, 8, 8, 8, 8, 8, 8, 8, 8, 8, 8, 8, 8, 8, 8, 8, 8, 8, 8, 8, 8, 8, 8, 8, 8, 8, 8, 8, 8, 8, 8, 8, 8, 8, 8, 8, 8, 8, 8, 8, 8, 8, 8, 8, 8, 8, 8, 8, 8, 8, 8, 8, 8]) (IntKind.wrap .u8 x0) fun v4 =>
 some ((.int .i64 (IntKind.wrap .i64 (0 + (IntKind.wrap .i64 v4)))), S)))

theorem a79_entry (call : CallA) (n : Nat) (x0 : Int) (S : AS) : evC E call n 79 (E.at 79 []) 0 (enumT 0 [(.int .u32 x0)]) S (retK E (E.fn 79)) = b79_entry call n  x0 S := by kernel_rfl
def J79 (call : CallA) (n : Nat) (x0 : Int) (S : AS) : Option (AV × AS) := b79_entry call n  x0 S
theorem run79 (o : Orc) (n : Nat) (args : List AV) (S : AS) (ho : o 79 args = none) : evF E o (n + 1) (.fn 79) args S = evC E (evF E o n) n 79 (E.at 79 []) 0 (enumT 0 args) S (retK E (E.fn 79)) := by
  rw [evF, ho]; kernel_rfl
theorem J79_eq (call : CallA) (n : Nat) (x0 : Int) (S : AS) : evC E call n 79 (E.at 79 []) 0 (enumT 0 [(.int .u32 x0)]) S (retK E (E.fn 79)) = J79 call n x0 S := by
  rw [J79, a79_entry]
theorem F79 {o : Orc} (n : Nat) (x0 : Int) (S : AS) (ho : ∀ args, o 79 args = none) : evF E o (n + 1) (.fn 79) [(.int .u32 x0)] S = J79 (evF E o n) n x0 S := (run79 o n [(.int .u32 x0)] S (ho _)).trans (J79_eq _ _ x0 S)
def b80_entry (call : CallA) (n : Nat)   (x0 : Int) (S : AS) : Option (AV × AS) :=
 cond (decide (x0 ≥ 4294967296)) (
 cond (decide ((shrI .u64 x0 32) ≥ 65536)) (
 cond (decide ((shrI .u64 (shrI .u64 x0 32) 16) ≥ 256)) (
 ixStr ([0, 1, 2, 2, 3, 3, 3, 3, 4, 4, 4, 4, 4, 4, 4, 4, 5, 5, 5, 5, 5, 5, 5, 5, 5, 5, 5, 5, 5, 5, 5, 5, 6, 6, 6, 6, 6, 6, 6, 6, 6, 6, 6, 6, 6, 6, 6, 6, 6, 6, 6, 6, 6, 6, 6, 6, 6, 6, 6, 6, 6, 6, 6, 6, 7, 7, 7, 7, 7, 7, 7, 7, 7, 7, 7, 7, 7, 7, 7, 7, 7, 7, 7, 7, 7, 7, 7, 7, 7, 7, 7, 7, 7, 7, 7, 7, 7, 7, 7, 7, 7, 7, 7, 7, 7, 7, 7, 7, 7, 7, 7, 7, 7, 7, 7, 7, 7, 7, 7, 7, 7, 7, 7, 7, 7, 7, 7, 7, 8, 8, 8, 8, 8, 8, 8, 8, 8, 8, 8, 8, 8, 8, 8, 8, 8, 8, 8, 8, 8, 8, 8, 8, 8, 8, 8, 8, 8, 8, 8, 8, 8, 8, 8, 8, 8, 8, 8, 8, 8, 8, 8, 8, 8, 8, 8, 8, 8, 8, 8, 8, 8, 8, 8, 8, 8, 8, 8, 8, 8, 8, 8, 8, 8, 8, 8, 8, 8, 8, 8, 8, 8, 8, 8, 8, 8, 8, 8, 8, 8, 8, 8, 8, 8, 8, 8, 8, 8, 8, 8, 8, 8, 8, 8, 8, 8, 8, 8, 8, 8, 8, 8, 8, 8, 8, 8, 8, 8, 8, 8, 8, 8, 8, 8, 8, 8, 8, 8, 8, 8, 8, 8, 8, 8, 8, 8, 8]) (IntKind.wrap .u8 (shrI .u64 (shrI .u64 (shrI .u64 x0 32) 16) 8)) fun v1 =>
 some ((.int .i64 (IntKind.wrap .i64 ((IntKind.wrap .i64 ((IntKind.wrap .i64 (32 + 16)) + 8)) + (IntKind.wrap .i64 v1)))), S)) (
 ixStr ([0, 1, 2, 2, 3, 3, 3, 3, 4, 4, 4, 4, 4, 4, 4, 4, 5, 5, 5, 5, 5, 5, 5, 5, 5, 5, 5, 5, 5, 5, 5, 5, 6, 6, 6, 6, 6, 6, 6, 6, 6, 6, 6, 6, 6, 6, 6, 6, 6, 6, 6, 6, 6, 6, 6, 6, 6, 6, 6, 6, 6, 6, 6, 6, 7, 7, 7, 7, 7, 7, 7, 7, 7, 7, 7, 7, 7, 7, 7, 7, 7, 7, 7, 7, 7, 7, 7, 7, 7, 7, 7, 7, 7, 7, 7, 7, 7, 7, 7, 7, 7, 7, 7, 7, 7, 7, 7, 7, 7, 7, 7, 7, 7, 7, 7, 7, 7, 7, 7, 7, 7, 7, 7, 7, 7, 7, 7, 7, 8, 8, 8, 8, 8, 8, 8, 8, 8, 8, 8, 8, 8, 8, 8, 8, 8, 8, 8, 8, 8, 8, 8, 8, 8, 8, 8, 8, 8, 8, 8, 8, 8, 8, 8, 8, 8, 8, 8, 8, 8, 8, 8, 8, 8, 8, 8, 8, 8, 8, 8, 8, 8, 8, 8, 8, 8, 8, 8, 8, 8, 8, 8, 8, 8, 8, 8, 8, 8, 8, 8, 8, 8, 8, 8, 8, 8, 8, 8, 8, 8, 8, 8, 8, 8, 8, 8, 8, 8, 8, 8, 8, 8, 8, 8, 8, 8, 8, 8, 8, 8, 8, 8, 8, 8, 8, 8, 8, 8, 8, 8, 8, 8, 8, 8, 8, 8, 8, 8, 8, 8, 8, 8, 8, 8, 8, 8, 8]) (IntKind.wrap .u8 (shrI .u64 (shrI .u64 x0 32) 16)) fun v2 =>
 some ((.int .i64 (IntKind.wrap .i64 ((IntKind.wrap .i64 (32 + 16)) + (IntKind.wrap .i64 v2)))), S))) (
 cond (decide ((shrI .u64 x0 32) ≥ 256)) (
 ixStr ([0, 1, 2, 2, 3, 3, 3, 3, 4, 4, 4, 4, 4, 4, 4, 4, 5, 5, 5, 5, 5, 5, 5, 5, 5, 5, 5, 5, 5, 5, 5, 5, 6, 6, 6, 6, 6, 6, 6, 6, 6, 6, 6, 6, 6, 6, 6, 6, 6, 6, 6, 6, 6, 6, 6, 6, 6, 6, 6, 6, 6, 6, 6, 6, 7, 7, 7, 7, 7, 7, 7, 7, 7, 7, 7, 7, 7, 7, 7, 7, 7, 7, 7, 7, 7, 7, 7, 7, 7, 7, 7, 7, 7, 7, 7, 7, 7, 7, 7, 7, 7, 7, 7, 7, 7, 7, 7, 7, 7, 7, 7, 7, 7, 7, 7, 7, 7, 7, 7, 7, 7, 7, 7, 7, 7, 7, 7, 7, 8, 8, 8, 8, 8, 8, 8, 8, 8, 8, 8, 8, 8, 8, 8, 8, 8, 8, 8, 8, 8, 8, 8, 8, 8, 8, 8, 8, 8, 8, 8, 8, 8, 8, 8, 8, 8, 8, 8, 8, 8, 8, 8, 8, 8, 8, 8, 8, 8, 8, 8, 8, 8, 8, 8, 8, 8, 8, 8, 8, 8, 8, 8, 8, 8, 8, 8, 8, 8, 8, 8, 8, 8, 8, 8, 8, 8, 8, 8, 8, 8, 8, 8, 8, 8, 8, 8, 8, 8, 8, 8, 8, 8, 8, 8, 8, 8, 8, 8, 8, 8, 8, 8, 8, 8, 8, 8, 8, 8, 8, 8, 8, 8, 8, 8, 8, 8, 8, 8, 8, 8, 8, 8, 8, 8, 8, 8, 8]) (IntKind.wrap .u8 (shrI .u64 (shrI .u64 x0 32) 8)) fun v3 =>
 some ((.int .i64 (IntKind.wrap .i64 ((IntKind.wrap .i64 (32 + 8)) + (IntKind.wrap .i64 v3)))), S)) (
 ixStr ([0, 1, 2, 2, 3, 3, 3, 3, 4, 4, 4, 4, 4, 4, 4, 4, 5, 5, 5, 5, 5, 5, 5, 5, 5, 5, 5, 5, 5, 5, 5, 5, 6, 6, 6, 6, 6, 6, 6, 6, 6, 6, 6, 6, 6, 6, 6, 6, 6, 6, 6, 6, 6, 6, 6, 6, 6, 6, 6, 6, 6, 6, 6, 6, 7, 7, 7, 7, 7, 7, 7, 7, 7, 7, 7, 7, 7, 7, 7, 7, 7, 7, 7, 7, 7, 7, 7, 7, 7, 7, 7, 7, 7, 7, 7, 7, 7, 7, 7, 7, 7, 7, 7, 7, 7, 7, 7, 7, 7, 7, 7, 7, 7, 7, 7, 7, 7, 7, 7, 7, 7, 7, 7, 7, 7, 7, 7, 7, 8, 8, 8, 8, 8, 8, 8, 8, 8, 8, 8, 8, 8, 8, 8, 8, 8, 8, 8, 8, 8, 8, 8, 8, 8, 8, 8, 8, 8, 8, 8, 8, 8, 8, 8, 8, 8, 8, 8, 8, 8, 8, 8, 8, 8, 8, 8, 8, 8, 8, 8, 8, 8, 8, 8, 8, 8, 8, 8, 8, 8, 8, 8, 8, 8, 8, 8, 8, 8, 8, 8, 8, 8, 8, 8, 8, 8, 8, 8, 8, 8, 8, 8, 8, 8, 8, 8, 8, 8, 8, 8, 8, 8, 8, 8, 8, 8, 8, 8, 8, 8, 8, 8, 8, 8, 8, 8, 8, 8, 8, 8, 8, 8, 8, 8, 8, 8, 8, 8, 8, 8, 8, 8, 8, 8, 8, 8, 8]) (IntKind.wrap .u8 (shrI .u64 x0 32)) fun v4 =>
 some ((.int .i64 (IntKind.wrap .i64 (32 + (IntKind.wrap .i64 v4)))), S)))) (
 cond (decide (x0 ≥ 65536)) (
 cond (decide ((shrI .u64 x0 16) ≥ 256)) (
 ixStr ([0, 1, 2, 2, 3, 3, 3, 3, 4, 4, 4, 4, 4, 4, 4, 4, 5, 5, 5, 5, 5, 5, 5, 5, 5, 5, 5, 5, 5, 5, 5, 5, 6, 6, 6, 6, 6, 6, 6, 6, 6, 6, 6, 6, 6, 6, 6, 6, 6, 6, 6, 6, 6, 6, 6, 6, 6, 6, 6, 6, 6, 6, 6, 6, 7, 7, 7, 7, 7, 7, 7, 7, 7, 7, 7, 7, 7, 7, 7, 7, 7, 7, 7, 7, 7, 7, 7, 7, 7, 7, 7, 7, 7, 7, 7, 7, 7, 7, 7, 7, 7, 7, 7, 7, 7, 7, 7, 7, 7, 7, 7, 7, 7, 7, 7, 7, 7, 7, 7, 7, 7, 7, 7, 7, 7, 7, 7, 7, 8, 8, 8, 8, 8, 8, 8, 8, 8, 8, 8, 8, 8, 8, 8, 8, 8, 8, 8, 8, 8, 8, 8, 8, 8, 8, 8, 8, 8, 8, 8, 8, 8, 8, 8, 8, 8, 8, 8, 8, 8, 8, 8, 8, 8, 8, 8, 8, 8, 8, 8, 8, 8, 8, 8, 8, 8, 8, 8, 8, 8, 8, 8, 8, 8, 8, 8, 8, 8, 8, 8, 8, 8, 8, 8, 8, 8, 8, 8, 8, 8, 8, 8, 8, 8, 8, 8, 8, 8, 8, 8, 8, 8, 8, 8, 8, 8, 8, 8, 8, 8, 8, 8, 8, 8, 8, 8, 8, 8, 8, 8, 8, 8, 8, 8, 8, 8, 8, 8, 8, 8, 8, 8, 8, 8, 8, 8, 8]) (IntKind.wrap .u8 (shrI .u64 (shrI .u64 x0 16) 8)) fun v5 =>
 some ((.int .i64 (IntKind.wrap .i64 ((IntKind.wrap .i64 ((IntKind.wrap .i64 (0 + 16)) + 8)) + (IntKind.wrap .i64 v5)))), S)) (
 ixStr ([0, 1, 2, 2, 3, 3, 3, 3, 4, 4, 4, 4, 4, 4, 4, 4, 5, 5, 5, 5, 5, 5, 5, 5, 5, 5, 5, 5, 5, 5, 5, 5, 6, 6, 6, 6, 6, 6, 6, 6, 6, 6, 6, 6, 6, 6, 6, 6, 6, 6, 6, 6, 6, 6, 6, 6, 6, 6, 6, 6, 6, 6, 6, 6, 7, 7, 7, 7, 7, 7, 7, 7, 7, 7, 7, 7, 7, 7, 7, 7, 7, 7, 7, 7, 7, 7, 7, 7, 7, 7, 7, 7, 7, 7, 7, 7, 7, 7, 7, 7, 7, 7, 7, 7, 7, 7, 7, 7, 7, 7, 7, 7, 7, 7, 7, 7, 7, 7, 7, 7, 7, 7, 7, 7, 7, 7, 7, 7, 8, 8, 8, 8, 8, 8, 8, 8, 8, 8, 8, 8, 8, 8, 8, 8, 8, 8, 8, 8, 8, 8, 8, 8, 8, 8, 8, 8, 8, 8, 8, 8, 8, 8, 8, 8, 8, 8, 8, 8, 8, 8, 8, 8, 8, 8, 8, 8, 8, 8, 8, 8, 8, 8, 8, 8, 8, 8, 8, 8, 8, 8, 8, 8, 8, 8, 8, 8, 8, 8, 8, 8, 8, 8, 8, 8, 8, 8, 8, 8, 8, 8, 8, 8, 8, 8, 8, 8, 8, 8, 8, 8, 8, 8, 8, 8, 8, 8, 8, 8, 8, 8, 8, 8, 8, 8, 8, 8, 8, 8, 8, 8, 8, 8, 8, 8, 8, 8, 8, 8, 8, 8, 8, 8, 8, 8, 8, 8]) (IntKind.wrap .u8 (shrI .u64 x0 16)) fun v6 =>
 some ((.int .i64 (IntKind.wrap .i64 ((IntKind.wrap .i64 (0 + 16)) + (IntKind.wrap .i64 v6)))), S))) (
 cond (decide (x0 ≥ 256)) (
 ixStr ([0, 1, 2, 2, 3, 3, 3, 3, 4, 4, 4, 4, 4, 4, 4, 4, 5, 5, 5, 5, 5, 5, 5, 5, 5, 5, 5, 5, 5, 5, 5, 5, 6, 6, 6, 6, 6, 6, 6, 6, 6, 6, 6, 6, 6, 6, 6, 6, 6, 6, 6, 6, 6, 6, 6, 6, 6, 6, 6, 6, 6, 6, 6, 6, 7, 7, 7, 7, 7, 7, 7, 7, 7, 7, 7, 7, 7, 7, 7, 7, 7, 7, 7, 7, 7, 7, 7, 7, 7, 7, 7, 7, 7, 7, 7, 7, 7, 7, 7, 7, 7, 7, 7, 7, 7, 7, 7, 7, 7, 7, 7, 7, 7, 7, 7, 7, 7, 7, 7, 7, 7, 7, 7, 7, 7, 7, 7, 7, 8, 8, 8, 8, 8, 8, 8, 8, 8, 8, 8, 8, 8, 8, 8, 8, 8, 8, 8, 8, 8, 8, 8, 8, 8, 8, 8, 8, 8, 8, 8, 8, 8, 8, 8, 8, 8, 8, 8, 8, 8, 8, 8, 8, 8, 8, 8, 8, 8, 8, 8, 8, 8, 8, 8, 8, 8, 8, 8, 8, 8, 8, 8, 8, 8, 8, 8, 8, 8, 8, 8, 8, 8, 8, 8, 8, 8, 8, 8, 8, 8, 8, 8, 8, 8, 8, 8, 8, 8, 8, 8, 8, 8, 8, 8, 8, 8, 8, 8, 8, 8, 8, 8, 8, 8, 8, 8, 8, 8, 8, 8, 8, 8, 8, 8, 8, 8, 8, 8, 8, 8, 8, 8, 8, 8, 8, 8, 8]) (IntKind.wrap .u8 (shrI .u64 x0 8)) fun v7 =>
 some ((.int .i64 (IntKind.wrap .i64 ((IntKind.wrap .i64 (0 + 8)) + (IntKind.wrap .i64 v7)))), S)) (
 ixStr ([0, 1, 2, 2, 3, 3, 3, 3, 4, 4, 4, 4, 4, 4, 4, 4, 5, 5, 5, 5, 5, 5, 5, 5, 5, 5, 5, 5, 5, 5, 5, 5, 6, 6, 6, 6, 6, 6, 6, 6, 6, 6, 6, 6, 6, 6, 6, 6, 6, 6, 6, 6, 6, 6, 6, 6, 6, 6, 6, 6, 6, 6, 6, 6, 7, 7, 7, 7, 7, 7, 7, 7, 7, 7, 7, 7, 7, 7, 7, 7, 7, 7, 7, 7, 7, 7, 7, 7, 7, 7, 7, 7, 7, 7, 7, 7, 7, 7, 7, 7, 7, 7, 7, 7, 7, 7, 7, 7, 7, 7, 7, 7, 7, 7, 7, 7, 7, 7, 7, 7, 7, 7, 7, 7, 7, 7, 7, 7, 8, 8, 8, 8, 8, 8, 8, 8, 8, 8, 8, 8, 8, 8, 8, 8, 8, 8, 8, 8, 8, 8, 8, 8, 8, 8, 8, 8, 8, 8, 8, 8, 8, 8, 8, 8, 8, 8, 8, 8, 8, 8, 8, 8, 8, 8, 8, 8, 8, 8, 8, 8, 8, 8, 8, 8, 8, 8, 8, 8, 8, 8, 8, 8, 8, 8, 8, 8, 8, 8, 8, 8, 8, 8, 8, 8, 8, 8, 8, 8, 8, 8, 8, 8, 8, 8, 8, 8, 8, 8, 8, 8, 8, 8, 8, 8, 8, 8, 8, 8, 8, 8, 8, 8, 8, 8, 8, 8, 8, 8, 8, 8, 8, 8, 8, 8, 8, 8, 8, 8, 8, 8, 8, 8, 8, 8, 8, 8]) (IntKind.wrap .u8 x0) fun v8 =>
 some ((.int .i64 (IntKind.wrap .i64 (0 + (IntKind.wrap .i64 v8)))), S))))

theorem a80_entry (call : CallA) (n : Nat) (x0 : Int) (S : AS) : evC E call n 80 (E.at 80 []) 0 (enumT 0 [(.int .u64 x0)]) S (retK E (E.fn 80)) = b80_entry call n  x0 S := by kernel_rfl
def J80 (call : CallA) (n : Nat) (x0 : Int) (S : AS) : Option (AV × AS) := b80_entry call n  x0 S
theorem run80 (o : Orc) (n : Nat) (args : List AV) (S : AS) (ho : o 80 args = none) : evF E o (n + 1) (.fn 80) args S = evC E (evF E o n) n 80 (E.at 80 []) 0 (enumT 0 args) S (retK E (E.fn 80)) := by
  rw [evF, ho]; kernel_rfl
theorem J80_eq (call : CallA) (n : Nat) (x0 : Int) (S : AS) : evC E call n 80 (E.at 80 []) 0 (enumT 0 [(.int .u64 x0)]) S (retK E (E.fn 80)) = J80 call n x0 S := by
  rw [J80, a80_entry]
theorem F80 {o : Orc} (n : Nat) (x0 : Int) (S : AS) (ho : ∀ args, o 80 args = none) : evF E o (n + 1) (.fn 80) [(.int .u64 x0)] S = J80 (evF E o n) n x0 S := (run80 o n [(.int .u64 x0)] S (ho _)).trans (J80_eq _ _ x0 S)
def b81_entry (call : CallA) (n : Nat)   (x0 : Int) (S : AS) : Option (AV × AS) :=
 cond (decide (x0 < 10)) (
 slStr ([48, 49, 50, 51, 52, 53, 54, 55, 56, 57, 97, 98, 99, 100, 101, 102, 103, 104, 105, 106, 107, 108, 109, 110, 111, 112, 113, 114, 115, 116, 117, 118, 119, 120, 121, 122]) (some x0) (some (IntKind.wrap .i64 (x0 + 1))) fun v1 =>
 some ((.str v1), S)) (
 slStr ([48, 48, 48, 49, 48, 50, 48, 51, 48, 52, 48, 53, 48, 54, 48, 55, 48, 56, 48, 57, 49, 48, 49, 49, 49, 50, 49, 51, 49, 52, 49, 53, 49, 54, 49, 55, 49, 56, 49, 57, 50, 48, 50, 49, 50, 50, 50, 51, 50, 52, 50, 53, 50, 54, 50, 55, 50, 56, 50, 57, 51, 48, 51, 49, 51, 50, 51, 51, 51, 52, 51, 53, 51, 54, 51, 55, 51, 56, 51, 57, 52, 48, 52, 49, 52, 50, 52, 51, 52, 52, 52, 53, 52, 54, 52, 55, 52, 56, 52, 57, 53, 48, 53, 49, 53, 50, 53, 51, 53, 52, 53, 53, 53, 54, 53, 55, 53, 56, 53, 57, 54, 48, 54, 49, 54, 50, 54, 51, 54, 52, 54, 53, 54, 54, 54, 55, 54, 56, 54, 57, 55, 48, 55, 49, 55, 50, 55, 51, 55, 52, 55, 53, 55, 54, 55, 55, 55, 56, 55, 57, 56, 48, 56, 49, 56, 50, 56, 51, 56, 52, 56, 53, 56, 54, 56, 55, 56, 56, 56, 57, 57, 48, 57, 49, 57, 50, 57, 51, 57, 52, 57, 53, 57, 54, 57, 55, 57, 56, 57, 57]) (some (IntKind.wrap .i64 (x0 * 2))) (some (IntKind.wrap .i64 ((IntKind.wrap .i64 (x0 * 2)) + 2))) fun v2 =>
 some ((.str v2), S))

theorem a81_entry (call : CallA) (n : Nat) (x0 : Int) (S : AS) : evC E call n 81 (E.at 81 []) 0 (enumT 0 [(.int .i64 x0)]) S (retK E (E.fn 81)) = b81_entry call n  x0 S := by kernel_rfl
def J81 (call : CallA) (n : Nat) (x0 : Int) (S : AS) : Option (AV × AS) := b81_entry call n  x0 S
theorem run81 (o : Orc) (n : Nat) (args : List AV) (S : AS) (ho : o 81 args = none) : evF E o (n + 1) (.fn 81) args S = evC E (evF E o n) n 81 (E.at 81 []) 0 (enumT 0 args) S (retK E (E.fn 81)) := by
  rw [evF, ho]; kernel_rfl
theorem J81_eq (call : CallA) (n : Nat) (x0 : Int) (S : AS) : evC E call n 81 (E.at 81 []) 0 (enumT 0 [(.int .i64 x0)]) S (retK E (E.fn 81)) = J81 call n x0 S := by
  rw [J81, a81_entry]
theorem F81 {o : Orc} (n : Nat) (x0 : Int) (S : AS) (ho : ∀ args, o 81 args = none) : evF E o (n + 1) (.fn 81) [(.int .i64 x0)] S = J81 (evF E o n) n x0 S := (run81 o n [(.int .i64 x0)] S (ho _)).trans (J81_eq _ _ x0 S)
end
end Go.Ct
