/- Plain readings of the functions, and that they are what the evaluator does: by program. -/
import Derived.Test.YtjninokocidaaaaGrRes
import Derived.Test.YtjninokocidaaaaENV
import Derived.KernelRfl
set_option maxRecDepth 100000
set_option linter.unusedVariables false
namespace Go.Al
open Go.Gr
noncomputable section
def b77_l1_1_1_0_0 (call : CallA) (n : Nat) (l1_1_1_0_0 : Option Pos → Nat → Cap → Int → Int → Int → AS → Option (AV × AS)) (l1_1_1_1_0_0 : Option Pos → Nat → Cap → Int → Int → Int → AS → Option (AV × AS)) (w0a : Option Pos) (w0l : Nat) (w0c : Cap) (w1 : Int) (w10 : Int) (w11 : Int) (S : AS) : Option (AV × AS) :=
 cond (decide (w10 ≤ w11)) (
 ixSl 1 w0a w0l w10 fun p9 =>
 ldI .i64 S p9.1 p9.2 fun v10 =>
 ixSl 1 w0a w0l w1 fun p11 =>
 ldI .i64 S p11.1 p11.2 fun v12 =>
 callB call 75 [(.int .i64 v10), (.int .i64 v12)] S fun v14 S13 =>
 cond v14 (
 l1_1_1_0_0 w0a w0l w0c w1 (IntKind.wrap .i64 (w10 + 1)) w11 S13) (
 l1_1_1_1_0_0 w0a w0l w0c w1 w10 w11 S13)) (
 l1_1_1_1_0_0 w0a w0l w0c w1 w10 w11 S)

def b77_l1_1_1_1_0_0 (call : CallA) (n : Nat) (l1_1_1_1_0_0 : Option Pos → Nat → Cap → Int → Int → Int → AS → Option (AV × AS)) (j1_1_1_1_1 : Option Pos → Nat → Cap → Int → Int → Int → AS → Option (AV × AS)) (w0a : Option Pos) (w0l : Nat) (w0c : Cap) (w1 : Int) (w10 : Int) (w11 : Int) (S : AS) : Option (AV × AS) :=
 cond (decide (w10 ≤ w11)) (
 ixSl 1 w0a w0l w11 fun p15 =>
 ldI .i64 S p15.1 p15.2 fun v16 =>
 ixSl 1 w0a w0l w1 fun p17 =>
 ldI .i64 S p17.1 p17.2 fun v18 =>
 callB call 75 [(.int .i64 v16), (.int .i64 v18)] S fun v20 S19 =>
 cond (!v20) (
 l1_1_1_1_0_0 w0a w0l w0c w1 w10 (IntKind.wrap .i64 (w11 - 1)) S19) (
 j1_1_1_1_1 w0a w0l w0c w1 w10 w11 S19)) (
 j1_1_1_1_1 w0a w0l w0c w1 w10 w11 S)

def b77_j1_1_1_1_1 (call : CallA) (n : Nat) (l1_1_1_1_1_1_1_1_1_0_0 : Option Pos → Nat → Cap → Int → Int → Int → AS → Option (AV × AS)) (w0a : Option Pos) (w0l : Nat) (w0c : Cap) (w1 : Int) (w10 : Int) (w11 : Int) (S : AS) : Option (AV × AS) :=
 cond (decide (w10 > w11)) (
 ixSl 1 w0a w0l w1 fun p21 =>
 ldI .i64 S p21.1 p21.2 fun v22 =>
 ixSl 1 w0a w0l w11 fun p23 =>
 ldI .i64 S p23.1 p23.2 fun v24 =>
 ixSl 1 w0a w0l w11 fun p25 =>
 S.stn p25.1 p25.2 [(.int .i64 v22)] fun S26 =>
 ixSl 1 w0a w0l w1 fun p27 =>
 S26.stn p27.1 p27.2 [(.int .i64 v24)] fun S28 =>
 some (.tup [(.int .i64 w11), (.bool true)], S28)) (
 ixSl 1 w0a w0l w11 fun p29 =>
 ldI .i64 S p29.1 p29.2 fun v30 =>
 ixSl 1 w0a w0l w10 fun p31 =>
 ldI .i64 S p31.1 p31.2 fun v32 =>
 ixSl 1 w0a w0l w10 fun p33 =>
 S.stn p33.1 p33.2 [(.int .i64 v30)] fun S34 =>
 ixSl 1 w0a w0l w11 fun p35 =>
 S34.stn p35.1 p35.2 [(.int .i64 v32)] fun S36 =>
 l1_1_1_1_1_1_1_1_1_0_0 w0a w0l w0c w1 (IntKind.wrap .i64 (w10 + 1)) (IntKind.wrap .i64 (w11 - 1)) S36)

def b77_l1_1_1_1_1_1_1_1_1_0_0 (call : CallA) (n : Nat) (l1_1_1_1_1_1_1_1_1_0_0_0_0_0_0 : Option Pos → Nat → Cap → Int → Int → Int → AS → Option (AV × AS)) (w0a : Option Pos) (w0l : Nat) (w0c : Cap) (w1 : Int) (w10 : Int) (w11 : Int) (S : AS) : Option (AV × AS) :=
 l1_1_1_1_1_1_1_1_1_0_0_0_0_0_0 w0a w0l w0c w1 w10 w11 S

def b77_l1_1_1_1_1_1_1_1_1_0_0_0_0_0_0 (call : CallA) (n : Nat) (l1_1_1_1_1_1_1_1_1_0_0_0_0_0_0 : Option Pos → Nat → Cap → Int → Int → Int → AS → Option (AV × AS)) (l1_1_1_1_1_1_1_1_1_0_0_0_0_1_0_0 : Option Pos → Nat → Cap → Int → Int → Int → AS → Option (AV × AS)) (w0a : Option Pos) (w0l : Nat) (w0c : Cap) (w1 : Int) (w10 : Int) (w11 : Int) (S : AS) : Option (AV × AS) :=
 cond (decide (w10 ≤ w11)) (
 ixSl 1 w0a w0l w10 fun p37 =>
 ldI .i64 S p37.1 p37.2 fun v38 =>
 ixSl 1 w0a w0l w1 fun p39 =>
 ldI .i64 S p39.1 p39.2 fun v40 =>
 callB call 75 [(.int .i64 v38), (.int .i64 v40)] S fun v42 S41 =>
 cond v42 (
 l1_1_1_1_1_1_1_1_1_0_0_0_0_0_0 w0a w0l w0c w1 (IntKind.wrap .i64 (w10 + 1)) w11 S41) (
 l1_1_1_1_1_1_1_1_1_0_0_0_0_1_0_0 w0a w0l w0c w1 w10 w11 S41)) (
 l1_1_1_1_1_1_1_1_1_0_0_0_0_1_0_0 w0a w0l w0c w1 w10 w11 S)

def b77_l1_1_1_1_1_1_1_1_1_0_0_0_0_1_0_0 (call : CallA) (n : Nat) (l1_1_1_1_1_1_1_1_1_0_0_0_0_1_0_0 : Option Pos → Nat → Cap → Int → Int → Int → AS → Option (AV × AS)) (j1_1_1_1_1_1_1_1_1_0_0_0_0_1_1 : Option Pos → Nat → Cap → Int → Int → Int → AS → Option (AV × AS)) (w0a : Option Pos) (w0l : Nat) (w0c : Cap) (w1 : Int) (w10 : Int) (w11 : Int) (S : AS) : Option (AV × AS) :=
 cond (decide (w10 ≤ w11)) (
 ixSl 1 w0a w0l w11 fun p43 =>
 ldI .i64 S p43.1 p43.2 fun v44 =>
 ixSl 1 w0a w0l w1 fun p45 =>
 ldI .i64 S p45.1 p45.2 fun v46 =>
 callB call 75 [(.int .i64 v44), (.int .i64 v46)] S fun v48 S47 =>
 cond (!v48) (
 l1_1_1_1_1_1_1_1_1_0_0_0_0_1_0_0 w0a w0l w0c w1 w10 (IntKind.wrap .i64 (w11 - 1)) S47) (
 j1_1_1_1_1_1_1_1_1_0_0_0_0_1_1 w0a w0l w0c w1 w10 w11 S47)) (
 j1_1_1_1_1_1_1_1_1_0_0_0_0_1_1 w0a w0l w0c w1 w10 w11 S)

def b77_j1_1_1_1_1_1_1_1_1_0_0_0_0_1_1 (call : CallA) (n : Nat) (j1_1_1_1_1_1_1_1_1_1 : Option Pos → Nat → Cap → Int → Int → AS → Option (AV × AS)) (l1_1_1_1_1_1_1_1_1_0_0 : Option Pos → Nat → Cap → Int → Int → Int → AS → Option (AV × AS)) (w0a : Option Pos) (w0l : Nat) (w0c : Cap) (w1 : Int) (w10 : Int) (w11 : Int) (S : AS) : Option (AV × AS) :=
 cond (decide (w10 > w11)) (
 j1_1_1_1_1_1_1_1_1_1 w0a w0l w0c w1 w11 S) (
 ixSl 1 w0a w0l w11 fun p49 =>
 ldI .i64 S p49.1 p49.2 fun v50 =>
 ixSl 1 w0a w0l w10 fun p51 =>
 ldI .i64 S p51.1 p51.2 fun v52 =>
 ixSl 1 w0a w0l w10 fun p53 =>
 S.stn p53.1 p53.2 [(.int .i64 v50)] fun S54 =>
 ixSl 1 w0a w0l w11 fun p55 =>
 S54.stn p55.1 p55.2 [(.int .i64 v52)] fun S56 =>
 l1_1_1_1_1_1_1_1_1_0_0 w0a w0l w0c w1 (IntKind.wrap .i64 (w10 + 1)) (IntKind.wrap .i64 (w11 - 1)) S56)

def b77_j1_1_1_1_1_1_1_1_1_1 (call : CallA) (n : Nat)  (w0a : Option Pos) (w0l : Nat) (w0c : Cap) (w1 : Int) (w11 : Int) (S : AS) : Option (AV × AS) :=
 ixSl 1 w0a w0l w1 fun p57 =>
 ldI .i64 S p57.1 p57.2 fun v58 =>
 ixSl 1 w0a w0l w11 fun p59 =>
 ldI .i64 S p59.1 p59.2 fun v60 =>
 ixSl 1 w0a w0l w11 fun p61 =>
 S.stn p61.1 p61.2 [(.int .i64 v58)] fun S62 =>
 ixSl 1 w0a w0l w1 fun p63 =>
 S62.stn p63.1 p63.2 [(.int .i64 v60)] fun S64 =>
 some (.tup [(.int .i64 w11), (.bool false)], S64)

def b77_entry (call : CallA) (n : Nat) (l1_1_1_0_0 : Option Pos → Nat → Cap → Int → Int → Int → AS → Option (AV × AS)) (x0a : Option Pos) (x0l : Nat) (x0c : Cap) (x1 : Int) (x2 : Int) (x3 : Int) (S : AS) : Option (AV × AS) :=
 ixSl 1 x0a x0l x3 fun p1 =>
 ldI .i64 S p1.1 p1.2 fun v2 =>
 ixSl 1 x0a x0l x1 fun p3 =>
 ldI .i64 S p3.1 p3.2 fun v4 =>
 ixSl 1 x0a x0l x1 fun p5 =>
 S.stn p5.1 p5.2 [(.int .i64 v2)] fun S6 =>
 ixSl 1 x0a x0l x3 fun p7 =>
 S6.stn p7.1 p7.2 [(.int .i64 v4)] fun S8 =>
 l1_1_1_0_0 x0a x0l x0c x1 (IntKind.wrap .i64 (x1 + 1)) (IntKind.wrap .i64 (x2 - 1)) S8

def r77_l1_1_1_0_0 (call : CallA) (n : Nat)  (m : Nat) (w0a : Option Pos) (w0l : Nat) (w0c : Cap) (w1 : Int) (w10 : Int) (w11 : Int) (S : AS) : Option (AV × AS) := loopN (evC E call n 77 (E.at 77 [1, 1, 1, 0, 0, 0]) 0) [0, 1, 10, 11] m [(0, (.sl w0a w0l w0c)), (1, (.int .i64 w1)), (10, (.int .i64 w10)), (11, (.int .i64 w11))] S (kBlk 0 (kSeq E call n 77 (E.at 77 [1, 1, 1, 1]) 0 (retK E (E.fn 77))))
def r77_l1_1_1_1_0_0 (call : CallA) (n : Nat)  (m : Nat) (w0a : Option Pos) (w0l : Nat) (w0c : Cap) (w1 : Int) (w10 : Int) (w11 : Int) (S : AS) : Option (AV × AS) := loopN (evC E call n 77 (E.at 77 [1, 1, 1, 1, 0, 0, 0]) 2) [0, 1, 10, 11] m [(0, (.sl w0a w0l w0c)), (1, (.int .i64 w1)), (10, (.int .i64 w10)), (11, (.int .i64 w11))] S (kBlk 2 (kSeq E call n 77 (E.at 77 [1, 1, 1, 1, 1]) 0 (retK E (E.fn 77))))
def r77_j1_1_1_1_1 (call : CallA) (n : Nat)  (w0a : Option Pos) (w0l : Nat) (w0c : Cap) (w1 : Int) (w10 : Int) (w11 : Int) (S : AS) : Option (AV × AS) := evC E call n 77 (E.at 77 [1, 1, 1, 1, 1]) 0 [(0, (.sl w0a w0l w0c)), (1, (.int .i64 w1)), (10, (.int .i64 w10)), (11, (.int .i64 w11))] S (retK E (E.fn 77))
def r77_l1_1_1_1_1_1_1_1_1_0_0 (call : CallA) (n : Nat)  (m : Nat) (w0a : Option Pos) (w0l : Nat) (w0c : Cap) (w1 : Int) (w10 : Int) (w11 : Int) (S : AS) : Option (AV × AS) := loopN (evC E call n 77 (E.at 77 [1, 1, 1, 1, 1, 1, 1, 1, 1, 0, 0, 0]) 4) [0, 1, 10, 11] m [(0, (.sl w0a w0l w0c)), (1, (.int .i64 w1)), (10, (.int .i64 w10)), (11, (.int .i64 w11))] S (kBlk 4 (kSeq E call n 77 (E.at 77 [1, 1, 1, 1, 1, 1, 1, 1, 1, 1]) 0 (retK E (E.fn 77))))
def r77_l1_1_1_1_1_1_1_1_1_0_0_0_0_0_0 (call : CallA) (n : Nat) (m1_1_1_1_1_1_1_1_1_0_0 : Nat) (m : Nat) (w0a : Option Pos) (w0l : Nat) (w0c : Cap) (w1 : Int) (w10 : Int) (w11 : Int) (S : AS) : Option (AV × AS) := loopN (evC E call n 77 (E.at 77 [1, 1, 1, 1, 1, 1, 1, 1, 1, 0, 0, 0, 0, 0, 0, 0]) 6) [0, 1, 10, 11] m [(0, (.sl w0a w0l w0c)), (1, (.int .i64 w1)), (10, (.int .i64 w10)), (11, (.int .i64 w11))] S (kBlk 6 (kSeq E call n 77 (E.at 77 [1, 1, 1, 1, 1, 1, 1, 1, 1, 0, 0, 0, 0, 1]) 5 (kBlk 5 (kLp (evC E call n 77 (E.at 77 [1, 1, 1, 1, 1, 1, 1, 1, 1, 0, 0, 0]) 4) [0, 1, 10, 11] m1_1_1_1_1_1_1_1_1_0_0 (kBlk 4 (kSeq E call n 77 (E.at 77 [1, 1, 1, 1, 1, 1, 1, 1, 1, 1]) 0 (retK E (E.fn 77))))))))
def r77_l1_1_1_1_1_1_1_1_1_0_0_0_0_1_0_0 (call : CallA) (n : Nat) (m1_1_1_1_1_1_1_1_1_0_0 : Nat) (m : Nat) (w0a : Option Pos) (w0l : Nat) (w0c : Cap) (w1 : Int) (w10 : Int) (w11 : Int) (S : AS) : Option (AV × AS) := loopN (evC E call n 77 (E.at 77 [1, 1, 1, 1, 1, 1, 1, 1, 1, 0, 0, 0, 0, 1, 0, 0, 0]) 8) [0, 1, 10, 11] m [(0, (.sl w0a w0l w0c)), (1, (.int .i64 w1)), (10, (.int .i64 w10)), (11, (.int .i64 w11))] S (kBlk 8 (kSeq E call n 77 (E.at 77 [1, 1, 1, 1, 1, 1, 1, 1, 1, 0, 0, 0, 0, 1, 1]) 5 (kBlk 5 (kLp (evC E call n 77 (E.at 77 [1, 1, 1, 1, 1, 1, 1, 1, 1, 0, 0, 0]) 4) [0, 1, 10, 11] m1_1_1_1_1_1_1_1_1_0_0 (kBlk 4 (kSeq E call n 77 (E.at 77 [1, 1, 1, 1, 1, 1, 1, 1, 1, 1]) 0 (retK E (E.fn 77))))))))
def r77_j1_1_1_1_1_1_1_1_1_0_0_0_0_1_1 (call : CallA) (n : Nat) (m1_1_1_1_1_1_1_1_1_0_0 : Nat) (w0a : Option Pos) (w0l : Nat) (w0c : Cap) (w1 : Int) (w10 : Int) (w11 : Int) (S : AS) : Option (AV × AS) := evC E call n 77 (E.at 77 [1, 1, 1, 1, 1, 1, 1, 1, 1, 0, 0, 0, 0, 1, 1]) 5 [(0, (.sl w0a w0l w0c)), (1, (.int .i64 w1)), (10, (.int .i64 w10)), (11, (.int .i64 w11))] S (kBlk 5 (kLp (evC E call n 77 (E.at 77 [1, 1, 1, 1, 1, 1, 1, 1, 1, 0, 0, 0]) 4) [0, 1, 10, 11] m1_1_1_1_1_1_1_1_1_0_0 (kBlk 4 (kSeq E call n 77 (E.at 77 [1, 1, 1, 1, 1, 1, 1, 1, 1, 1]) 0 (retK E (E.fn 77))))))
def r77_j1_1_1_1_1_1_1_1_1_1 (call : CallA) (n : Nat)  (w0a : Option Pos) (w0l : Nat) (w0c : Cap) (w1 : Int) (w11 : Int) (S : AS) : Option (AV × AS) := evC E call n 77 (E.at 77 [1, 1, 1, 1, 1, 1, 1, 1, 1, 1]) 0 [(0, (.sl w0a w0l w0c)), (1, (.int .i64 w1)), (11, (.int .i64 w11))] S (retK E (E.fn 77))
theorem a77_l1_1_1_0_0 (call : CallA) (n : Nat)  (m : Nat) (w0a : Option Pos) (w0l : Nat) (w0c : Cap) (w1 : Int) (w10 : Int) (w11 : Int) (S : AS) : r77_l1_1_1_0_0 call n  (m + 1) w0a w0l w0c w1 w10 w11 S = b77_l1_1_1_0_0 call n (r77_l1_1_1_0_0 call n  m) (r77_l1_1_1_1_0_0 call n  n) w0a w0l w0c w1 w10 w11 S := by kernel_rfl
theorem a77_l1_1_1_1_0_0 (call : CallA) (n : Nat)  (m : Nat) (w0a : Option Pos) (w0l : Nat) (w0c : Cap) (w1 : Int) (w10 : Int) (w11 : Int) (S : AS) : r77_l1_1_1_1_0_0 call n  (m + 1) w0a w0l w0c w1 w10 w11 S = b77_l1_1_1_1_0_0 call n (r77_l1_1_1_1_0_0 call n  m) (r77_j1_1_1_1_1 call n ) w0a w0l w0c w1 w10 w11 S := by kernel_rfl
theorem a77_j1_1_1_1_1 (call : CallA) (n : Nat)  (w0a : Option Pos) (w0l : Nat) (w0c : Cap) (w1 : Int) (w10 : Int) (w11 : Int) (S : AS) : r77_j1_1_1_1_1 call n  w0a w0l w0c w1 w10 w11 S = b77_j1_1_1_1_1 call n (r77_l1_1_1_1_1_1_1_1_1_0_0 call n  n) w0a w0l w0c w1 w10 w11 S := by kernel_rfl
theorem a77_l1_1_1_1_1_1_1_1_1_0_0 (call : CallA) (n : Nat)  (m : Nat) (w0a : Option Pos) (w0l : Nat) (w0c : Cap) (w1 : Int) (w10 : Int) (w11 : Int) (S : AS) : r77_l1_1_1_1_1_1_1_1_1_0_0 call n  (m + 1) w0a w0l w0c w1 w10 w11 S = b77_l1_1_1_1_1_1_1_1_1_0_0 call n (r77_l1_1_1_1_1_1_1_1_1_0_0_0_0_0_0 call n m n) w0a w0l w0c w1 w10 w11 S := by kernel_rfl
theorem a77_l1_1_1_1_1_1_1_1_1_0_0_0_0_0_0 (call : CallA) (n : Nat) (m1_1_1_1_1_1_1_1_1_0_0 : Nat) (m : Nat) (w0a : Option Pos) (w0l : Nat) (w0c : Cap) (w1 : Int) (w10 : Int) (w11 : Int) (S : AS) : r77_l1_1_1_1_1_1_1_1_1_0_0_0_0_0_0 call n m1_1_1_1_1_1_1_1_1_0_0 (m + 1) w0a w0l w0c w1 w10 w11 S = b77_l1_1_1_1_1_1_1_1_1_0_0_0_0_0_0 call n (r77_l1_1_1_1_1_1_1_1_1_0_0_0_0_0_0 call n m1_1_1_1_1_1_1_1_1_0_0 m) (r77_l1_1_1_1_1_1_1_1_1_0_0_0_0_1_0_0 call n m1_1_1_1_1_1_1_1_1_0_0 n) w0a w0l w0c w1 w10 w11 S := by kernel_rfl
theorem a77_l1_1_1_1_1_1_1_1_1_0_0_0_0_1_0_0 (call : CallA) (n : Nat) (m1_1_1_1_1_1_1_1_1_0_0 : Nat) (m : Nat) (w0a : Option Pos) (w0l : Nat) (w0c : Cap) (w1 : Int) (w10 : Int) (w11 : Int) (S : AS) : r77_l1_1_1_1_1_1_1_1_1_0_0_0_0_1_0_0 call n m1_1_1_1_1_1_1_1_1_0_0 (m + 1) w0a w0l w0c w1 w10 w11 S = b77_l1_1_1_1_1_1_1_1_1_0_0_0_0_1_0_0 call n (r77_l1_1_1_1_1_1_1_1_1_0_0_0_0_1_0_0 call n m1_1_1_1_1_1_1_1_1_0_0 m) (r77_j1_1_1_1_1_1_1_1_1_0_0_0_0_1_1 call n m1_1_1_1_1_1_1_1_1_0_0) w0a w0l w0c w1 w10 w11 S := by kernel_rfl
theorem a77_j1_1_1_1_1_1_1_1_1_0_0_0_0_1_1 (call : CallA) (n : Nat) (m1_1_1_1_1_1_1_1_1_0_0 : Nat) (w0a : Option Pos) (w0l : Nat) (w0c : Cap) (w1 : Int) (w10 : Int) (w11 : Int) (S : AS) : r77_j1_1_1_1_1_1_1_1_1_0_0_0_0_1_1 call n m1_1_1_1_1_1_1_1_1_0_0 w0a w0l w0c w1 w10 w11 S = b77_j1_1_1_1_1_1_1_1_1_0_0_0_0_1_1 call n (r77_j1_1_1_1_1_1_1_1_1_1 call n ) (r77_l1_1_1_1_1_1_1_1_1_0_0 call n  m1_1_1_1_1_1_1_1_1_0_0) w0a w0l w0c w1 w10 w11 S := by kernel_rfl
theorem a77_j1_1_1_1_1_1_1_1_1_1 (call : CallA) (n : Nat)  (w0a : Option Pos) (w0l : Nat) (w0c : Cap) (w1 : Int) (w11 : Int) (S : AS) : r77_j1_1_1_1_1_1_1_1_1_1 call n  w0a w0l w0c w1 w11 S = b77_j1_1_1_1_1_1_1_1_1_1 call n  w0a w0l w0c w1 w11 S := by kernel_rfl
theorem a77_entry (call : CallA) (n : Nat) (x0a : Option Pos) (x0l : Nat) (x0c : Cap) (x1 : Int) (x2 : Int) (x3 : Int) (S : AS) : evC E call n 77 (E.at 77 []) 0 (enumT 0 [(.sl x0a x0l x0c), (.int .i64 x1), (.int .i64 x2), (.int .i64 x3)]) S (retK E (E.fn 77)) = b77_entry call n (r77_l1_1_1_0_0 call n  n) x0a x0l x0c x1 x2 x3 S := by kernel_rfl
def J77_j1_1_1_1_1_1_1_1_1_1 (call : CallA) (n : Nat)  (w0a : Option Pos) (w0l : Nat) (w0c : Cap) (w1 : Int) (w11 : Int) (S : AS) : Option (AV × AS) := b77_j1_1_1_1_1_1_1_1_1_1 call n  w0a w0l w0c w1 w11 S
theorem h77_j1_1_1_1_1_1_1_1_1_1 (call : CallA) (n : Nat)  : r77_j1_1_1_1_1_1_1_1_1_1 call n  = J77_j1_1_1_1_1_1_1_1_1_1 call n  := by
  funext w0a w0l w0c w1 w11 S
  rw [J77_j1_1_1_1_1_1_1_1_1_1, a77_j1_1_1_1_1_1_1_1_1_1]
def J77_j1_1_1_1_1_1_1_1_1_0_0_0_0_1_1 (call : CallA) (n : Nat) (n1_1_1_1_1_1_1_1_1_0_0 : Option Pos → Nat → Cap → Int → Int → Int → AS → Option (AV × AS)) (w0a : Option Pos) (w0l : Nat) (w0c : Cap) (w1 : Int) (w10 : Int) (w11 : Int) (S : AS) : Option (AV × AS) := b77_j1_1_1_1_1_1_1_1_1_0_0_0_0_1_1 call n (J77_j1_1_1_1_1_1_1_1_1_1 call n ) n1_1_1_1_1_1_1_1_1_0_0 w0a w0l w0c w1 w10 w11 S
theorem h77_j1_1_1_1_1_1_1_1_1_0_0_0_0_1_1 (call : CallA) (n : Nat) (m1_1_1_1_1_1_1_1_1_0_0 : Nat) : r77_j1_1_1_1_1_1_1_1_1_0_0_0_0_1_1 call n m1_1_1_1_1_1_1_1_1_0_0 = J77_j1_1_1_1_1_1_1_1_1_0_0_0_0_1_1 call n (r77_l1_1_1_1_1_1_1_1_1_0_0 call n  m1_1_1_1_1_1_1_1_1_0_0) := by
  funext w0a w0l w0c w1 w10 w11 S
  rw [J77_j1_1_1_1_1_1_1_1_1_0_0_0_0_1_1, a77_j1_1_1_1_1_1_1_1_1_0_0_0_0_1_1, h77_j1_1_1_1_1_1_1_1_1_1 call n ]
def J77_l1_1_1_1_1_1_1_1_1_0_0_0_0_1_0_0 (call : CallA) (n : Nat) (n1_1_1_1_1_1_1_1_1_0_0 : Option Pos → Nat → Cap → Int → Int → Int → AS → Option (AV × AS)) (m : Nat) : Option Pos → Nat → Cap → Int → Int → Int → AS → Option (AV × AS) := Nat.rec (motive := fun _ => Option Pos → Nat → Cap → Int → Int → Int → AS → Option (AV × AS)) (fun _ _ _ _ _ _ _ => none) (fun _ ih w0a w0l w0c w1 w10 w11 S => b77_l1_1_1_1_1_1_1_1_1_0_0_0_0_1_0_0 call n ih (J77_j1_1_1_1_1_1_1_1_1_0_0_0_0_1_1 call n n1_1_1_1_1_1_1_1_1_0_0) w0a w0l w0c w1 w10 w11 S) m
theorem J77_l1_1_1_1_1_1_1_1_1_0_0_0_0_1_0_0_succ (call : CallA) (n : Nat) (n1_1_1_1_1_1_1_1_1_0_0 : Option Pos → Nat → Cap → Int → Int → Int → AS → Option (AV × AS)) (m : Nat) (w0a : Option Pos) (w0l : Nat) (w0c : Cap) (w1 : Int) (w10 : Int) (w11 : Int) (S : AS) : J77_l1_1_1_1_1_1_1_1_1_0_0_0_0_1_0_0 call n n1_1_1_1_1_1_1_1_1_0_0 (m + 1) w0a w0l w0c w1 w10 w11 S = b77_l1_1_1_1_1_1_1_1_1_0_0_0_0_1_0_0 call n (J77_l1_1_1_1_1_1_1_1_1_0_0_0_0_1_0_0 call n n1_1_1_1_1_1_1_1_1_0_0 m) (J77_j1_1_1_1_1_1_1_1_1_0_0_0_0_1_1 call n n1_1_1_1_1_1_1_1_1_0_0) w0a w0l w0c w1 w10 w11 S := rfl
theorem h77_l1_1_1_1_1_1_1_1_1_0_0_0_0_1_0_0 (call : CallA) (n : Nat) (m1_1_1_1_1_1_1_1_1_0_0 : Nat) (m : Nat) : r77_l1_1_1_1_1_1_1_1_1_0_0_0_0_1_0_0 call n m1_1_1_1_1_1_1_1_1_0_0 m = J77_l1_1_1_1_1_1_1_1_1_0_0_0_0_1_0_0 call n (r77_l1_1_1_1_1_1_1_1_1_0_0 call n  m1_1_1_1_1_1_1_1_1_0_0) m := by
  induction m with
  | zero => rfl
  | succ m ih =>
    funext w0a w0l w0c w1 w10 w11 S
    rw [J77_l1_1_1_1_1_1_1_1_1_0_0_0_0_1_0_0_succ, a77_l1_1_1_1_1_1_1_1_1_0_0_0_0_1_0_0, h77_j1_1_1_1_1_1_1_1_1_0_0_0_0_1_1 call n m1_1_1_1_1_1_1_1_1_0_0, ih]
def J77_l1_1_1_1_1_1_1_1_1_0_0_0_0_0_0 (call : CallA) (n : Nat) (n1_1_1_1_1_1_1_1_1_0_0 : Option Pos → Nat → Cap → Int → Int → Int → AS → Option (AV × AS)) (m : Nat) : Option Pos → Nat → Cap → Int → Int → Int → AS → Option (AV × AS) := Nat.rec (motive := fun _ => Option Pos → Nat → Cap → Int → Int → Int → AS → Option (AV × AS)) (fun _ _ _ _ _ _ _ => none) (fun _ ih w0a w0l w0c w1 w10 w11 S => b77_l1_1_1_1_1_1_1_1_1_0_0_0_0_0_0 call n ih (J77_l1_1_1_1_1_1_1_1_1_0_0_0_0_1_0_0 call n n1_1_1_1_1_1_1_1_1_0_0 n) w0a w0l w0c w1 w10 w11 S) m
theorem J77_l1_1_1_1_1_1_1_1_1_0_0_0_0_0_0_succ (call : CallA) (n : Nat) (n1_1_1_1_1_1_1_1_1_0_0 : Option Pos → Nat → Cap → Int → Int → Int → AS → Option (AV × AS)) (m : Nat) (w0a : Option Pos) (w0l : Nat) (w0c : Cap) (w1 : Int) (w10 : Int) (w11 : Int) (S : AS) : J77_l1_1_1_1_1_1_1_1_1_0_0_0_0_0_0 call n n1_1_1_1_1_1_1_1_1_0_0 (m + 1) w0a w0l w0c w1 w10 w11 S = b77_l1_1_1_1_1_1_1_1_1_0_0_0_0_0_0 call n (J77_l1_1_1_1_1_1_1_1_1_0_0_0_0_0_0 call n n1_1_1_1_1_1_1_1_1_0_0 m) (J77_l1_1_1_1_1_1_1_1_1_0_0_0_0_1_0_0 call n n1_1_1_1_1_1_1_1_1_0_0 n) w0a w0l w0c w1 w10 w11 S := rfl
theorem h77_l1_1_1_1_1_1_1_1_1_0_0_0_0_0_0 (call : CallA) (n : Nat) (m1_1_1_1_1_1_1_1_1_0_0 : Nat) (m : Nat) : r77_l1_1_1_1_1_1_1_1_1_0_0_0_0_0_0 call n m1_1_1_1_1_1_1_1_1_0_0 m = J77_l1_1_1_1_1_1_1_1_1_0_0_0_0_0_0 call n (r77_l1_1_1_1_1_1_1_1_1_0_0 call n  m1_1_1_1_1_1_1_1_1_0_0) m := by
  induction m with
  | zero => rfl
  | succ m ih =>
    funext w0a w0l w0c w1 w10 w11 S
    rw [J77_l1_1_1_1_1_1_1_1_1_0_0_0_0_0_0_succ, a77_l1_1_1_1_1_1_1_1_1_0_0_0_0_0_0, h77_l1_1_1_1_1_1_1_1_1_0_0_0_0_1_0_0 call n m1_1_1_1_1_1_1_1_1_0_0 n, ih]
def J77_l1_1_1_1_1_1_1_1_1_0_0 (call : CallA) (n : Nat)  (m : Nat) : Option Pos → Nat → Cap → Int → Int → Int → AS → Option (AV × AS) := Nat.rec (motive := fun _ => Option Pos → Nat → Cap → Int → Int → Int → AS → Option (AV × AS)) (fun _ _ _ _ _ _ _ => none) (fun _ ih w0a w0l w0c w1 w10 w11 S => b77_l1_1_1_1_1_1_1_1_1_0_0 call n (J77_l1_1_1_1_1_1_1_1_1_0_0_0_0_0_0 call n ih n) w0a w0l w0c w1 w10 w11 S) m
theorem J77_l1_1_1_1_1_1_1_1_1_0_0_succ (call : CallA) (n : Nat)  (m : Nat) (w0a : Option Pos) (w0l : Nat) (w0c : Cap) (w1 : Int) (w10 : Int) (w11 : Int) (S : AS) : J77_l1_1_1_1_1_1_1_1_1_0_0 call n  (m + 1) w0a w0l w0c w1 w10 w11 S = b77_l1_1_1_1_1_1_1_1_1_0_0 call n (J77_l1_1_1_1_1_1_1_1_1_0_0_0_0_0_0 call n (J77_l1_1_1_1_1_1_1_1_1_0_0 call n  m) n) w0a w0l w0c w1 w10 w11 S := rfl
theorem h77_l1_1_1_1_1_1_1_1_1_0_0 (call : CallA) (n : Nat)  (m : Nat) : r77_l1_1_1_1_1_1_1_1_1_0_0 call n  m = J77_l1_1_1_1_1_1_1_1_1_0_0 call n  m := by
  induction m with
  | zero => rfl
  | succ m ih =>
    funext w0a w0l w0c w1 w10 w11 S
    rw [J77_l1_1_1_1_1_1_1_1_1_0_0_succ, a77_l1_1_1_1_1_1_1_1_1_0_0, h77_l1_1_1_1_1_1_1_1_1_0_0_0_0_0_0 call n m n, ih]
def J77_j1_1_1_1_1 (call : CallA) (n : Nat)  (w0a : Option Pos) (w0l : Nat) (w0c : Cap) (w1 : Int) (w10 : Int) (w11 : Int) (S : AS) : Option (AV × AS) := b77_j1_1_1_1_1 call n (J77_l1_1_1_1_1_1_1_1_1_0_0 call n  n) w0a w0l w0c w1 w10 w11 S
theorem h77_j1_1_1_1_1 (call : CallA) (n : Nat)  : r77_j1_1_1_1_1 call n  = J77_j1_1_1_1_1 call n  := by
  funext w0a w0l w0c w1 w10 w11 S
  rw [J77_j1_1_1_1_1, a77_j1_1_1_1_1, h77_l1_1_1_1_1_1_1_1_1_0_0 call n  n]
def J77_l1_1_1_1_0_0 (call : CallA) (n : Nat)  (m : Nat) : Option Pos → Nat → Cap → Int → Int → Int → AS → Option (AV × AS) := Nat.rec (motive := fun _ => Option Pos → Nat → Cap → Int → Int → Int → AS → Option (AV × AS)) (fun _ _ _ _ _ _ _ => none) (fun _ ih w0a w0l w0c w1 w10 w11 S => b77_l1_1_1_1_0_0 call n ih (J77_j1_1_1_1_1 call n ) w0a w0l w0c w1 w10 w11 S) m
theorem J77_l1_1_1_1_0_0_succ (call : CallA) (n : Nat)  (m : Nat) (w0a : Option Pos) (w0l : Nat) (w0c : Cap) (w1 : Int) (w10 : Int) (w11 : Int) (S : AS) : J77_l1_1_1_1_0_0 call n  (m + 1) w0a w0l w0c w1 w10 w11 S = b77_l1_1_1_1_0_0 call n (J77_l1_1_1_1_0_0 call n  m) (J77_j1_1_1_1_1 call n ) w0a w0l w0c w1 w10 w11 S := rfl
theorem h77_l1_1_1_1_0_0 (call : CallA) (n : Nat)  (m : Nat) : r77_l1_1_1_1_0_0 call n  m = J77_l1_1_1_1_0_0 call n  m := by
  induction m with
  | zero => rfl
  | succ m ih =>
    funext w0a w0l w0c w1 w10 w11 S
    rw [J77_l1_1_1_1_0_0_succ, a77_l1_1_1_1_0_0, h77_j1_1_1_1_1 call n , ih]
def J77_l1_1_1_0_0 (call : CallA) (n : Nat)  (m : Nat) : Option Pos → Nat → Cap → Int → Int → Int → AS → Option (AV × AS) := Nat.rec (motive := fun _ => Option Pos → Nat → Cap → Int → Int → Int → AS → Option (AV × AS)) (fun _ _ _ _ _ _ _ => none) (fun _ ih w0a w0l w0c w1 w10 w11 S => b77_l1_1_1_0_0 call n ih (J77_l1_1_1_1_0_0 call n  n) w0a w0l w0c w1 w10 w11 S) m
theorem J77_l1_1_1_0_0_succ (call : CallA) (n : Nat)  (m : Nat) (w0a : Option Pos) (w0l : Nat) (w0c : Cap) (w1 : Int) (w10 : Int) (w11 : Int) (S : AS) : J77_l1_1_1_0_0 call n  (m + 1) w0a w0l w0c w1 w10 w11 S = b77_l1_1_1_0_0 call n (J77_l1_1_1_0_0 call n  m) (J77_l1_1_1_1_0_0 call n  n) w0a w0l w0c w1 w10 w11 S := rfl
theorem h77_l1_1_1_0_0 (call : CallA) (n : Nat)  (m : Nat) : r77_l1_1_1_0_0 call n  m = J77_l1_1_1_0_0 call n  m := by
  induction m with
  | zero => rfl
  | succ m ih =>
    funext w0a w0l w0c w1 w10 w11 S
    rw [J77_l1_1_1_0_0_succ, a77_l1_1_1_0_0, h77_l1_1_1_1_0_0 call n  n, ih]
def J77 (call : CallA) (n : Nat) (x0a : Option Pos) (x0l : Nat) (x0c : Cap) (x1 : Int) (x2 : Int) (x3 : Int) (S : AS) : Option (AV × AS) := b77_entry call n (J77_l1_1_1_0_0 call n  n) x0a x0l x0c x1 x2 x3 S
theorem run77 (o : Orc) (n : Nat) (args : List AV) (S : AS) (ho : o 77 args = none) : evF E o (n + 1) (.fn 77) args S = evC E (evF E o n) n 77 (E.at 77 []) 0 (enumT 0 args) S (retK E (E.fn 77)) := by
  rw [evF, ho]; kernel_rfl
theorem J77_eq (call : CallA) (n : Nat) (x0a : Option Pos) (x0l : Nat) (x0c : Cap) (x1 : Int) (x2 : Int) (x3 : Int) (S : AS) : evC E call n 77 (E.at 77 []) 0 (enumT 0 [(.sl x0a x0l x0c), (.int .i64 x1), (.int .i64 x2), (.int .i64 x3)]) S (retK E (E.fn 77)) = J77 call n x0a x0l x0c x1 x2 x3 S := by
  rw [J77, a77_entry, h77_l1_1_1_0_0 call n  n]
theorem F77 {o : Orc} (n : Nat) (x0a : Option Pos) (x0l : Nat) (x0c : Cap) (x1 : Int) (x2 : Int) (x3 : Int) (S : AS) (ho : ∀ args, o 77 args = none) : evF E o (n + 1) (.fn 77) [(.sl x0a x0l x0c), (.int .i64 x1), (.int .i64 x2), (.int .i64 x3)] S = J77 (evF E o n) n x0a x0l x0c x1 x2 x3 S := (run77 o n [(.sl x0a x0l x0c), (.int .i64 x1), (.int .i64 x2), (.int .i64 x3)] S (ho _)).trans (J77_eq _ _ x0a x0l x0c x1 x2 x3 S)
def b81_entry (call : CallA) (n : Nat)  (x0 : Int) (S : AS) : Option (AV × AS) :=
 callI .i64 call 64 [(.int .u64 (IntKind.wrap .u64 x0))] S fun v2 S1 =>
 nneg v2 <|
 some ((.int .u64 (shlI .u64 1 v2)), S1)

theorem a81_entry (call : CallA) (n : Nat) (x0 : Int) (S : AS) : evC E call n 81 (E.at 81 []) 0 (enumT 0 [(.int .i64 x0)]) S (retK E (E.fn 81)) = b81_entry call n  x0 S := by kernel_rfl
def J81 (call : CallA) (n : Nat) (x0 : Int) (S : AS) : Option (AV × AS) := b81_entry call n  x0 S
theorem run81 (o : Orc) (n : Nat) (args : List AV) (S : AS) (ho : o 81 args = none) : evF E o (n + 1) (.fn 81) args S = evC E (evF E o n) n 81 (E.at 81 []) 0 (enumT 0 args) S (retK E (E.fn 81)) := by
  rw [evF, ho]; kernel_rfl
theorem J81_eq (call : CallA) (n : Nat) (x0 : Int) (S : AS) : evC E call n 81 (E.at 81 []) 0 (enumT 0 [(.int .i64 x0)]) S (retK E (E.fn 81)) = J81 call n x0 S := by
  rw [J81, a81_entry]
theorem F81 {o : Orc} (n : Nat) (x0 : Int) (S : AS) (ho : ∀ args, o 81 args = none) : evF E o (n + 1) (.fn 81) [(.int .i64 x0)] S = J81 (evF E o n) n x0 S := (run81 o n [(.int .i64 x0)] S (ho _)).trans (J81_eq _ _ x0 S)
def b82_entry (call : CallA) (n : Nat)  (x0 : Option Pos) (S : AS) : Option (AV × AS) :=
 gO x0 fun p1 =>
 ldI .u64 S p1.1 p1.2 fun v2 =>
 gO x0 fun p3 =>
 ldI .u64 S p3.1 p3.2 fun v4 =>
 gO x0 fun p5 =>
 S.stn p5.1 p5.2 [(.int .u64 (xorI .u64 v2 (shlI .u64 v4 13)))] fun S6 =>
 gO x0 fun p7 =>
 ldI .u64 S6 p7.1 p7.2 fun v8 =>
 gO x0 fun p9 =>
 ldI .u64 S6 p9.1 p9.2 fun v10 =>
 gO x0 fun p11 =>
 S6.stn p11.1 p11.2 [(.int .u64 (xorI .u64 v8 (shrI .u64 v10 7)))] fun S12 =>
 gO x0 fun p13 =>
 ldI .u64 S12 p13.1 p13.2 fun v14 =>
 gO x0 fun p15 =>
 ldI .u64 S12 p15.1 p15.2 fun v16 =>
 gO x0 fun p17 =>
 S12.stn p17.1 p17.2 [(.int .u64 (xorI .u64 v14 (shlI .u64 v16 17)))] fun S18 =>
 gO x0 fun p19 =>
 ldI .u64 S18 p19.1 p19.2 fun v20 =>
 some ((.int .u64 v20), S18)

theorem a82_entry (call : CallA) (n : Nat) (x0 : Option Pos) (S : AS) : evC E call n 82 (E.at 82 []) 0 (enumT 0 [(.ptr x0)]) S (retK E (E.fn 82)) = b82_entry call n  x0 S := by kernel_rfl
def J82 (call : CallA) (n : Nat) (x0 : Option Pos) (S : AS) : Option (AV × AS) := b82_entry call n  x0 S
theorem run82 (o : Orc) (n : Nat) (args : List AV) (S : AS) (ho : o 82 args = none) : evF E o (n + 1) (.fn 82) args S = evC E (evF E o n) n 82 (E.at 82 []) 0 (enumT 0 args) S (retK E (E.fn 82)) := by
  rw [evF, ho]; kernel_rfl
theorem J82_eq (call : CallA) (n : Nat) (x0 : Option Pos) (S : AS) : evC E call n 82 (E.at 82 []) 0 (enumT 0 [(.ptr x0)]) S (retK E (E.fn 82)) = J82 call n x0 S := by
  rw [J82, a82_entry]
theorem F82 {o : Orc} (n : Nat) (x0 : Option Pos) (S : AS) (ho : ∀ args, o 82 args = none) : evF E o (n + 1) (.fn 82) [(.ptr x0)] S = J82 (evF E o n) n x0 S := (run82 o n [(.ptr x0)] S (ho _)).trans (J82_eq _ _ x0 S)
def b83_entry (call : CallA) (n : Nat)  (x0a : Option Pos) (x0l : Nat) (x0c : Cap) (x1 : Int) (x2 : Option Pos) (S : AS) : Option (AV × AS) :=
 callI .i64 call 84 [(.sl x0a x0l x0c), (.int .i64 (IntKind.wrap .i64 (x1 - 1))), (.int .i64 x1), (.int .i64 (IntKind.wrap .i64 (x1 + 1))), (.ptr x2)] S fun v2 S1 =>
 some ((.int .i64 v2), S1)

theorem a83_entry (call : CallA) (n : Nat) (x0a : Option Pos) (x0l : Nat) (x0c : Cap) (x1 : Int) (x2 : Option Pos) (S : AS) : evC E call n 83 (E.at 83 []) 0 (enumT 0 [(.sl x0a x0l x0c), (.int .i64 x1), (.ptr x2)]) S (retK E (E.fn 83)) = b83_entry call n  x0a x0l x0c x1 x2 S := by kernel_rfl
def J83 (call : CallA) (n : Nat) (x0a : Option Pos) (x0l : Nat) (x0c : Cap) (x1 : Int) (x2 : Option Pos) (S : AS) : Option (AV × AS) := b83_entry call n  x0a x0l x0c x1 x2 S
theorem run83 (o : Orc) (n : Nat) (args : List AV) (S : AS) (ho : o 83 args = none) : evF E o (n + 1) (.fn 83) args S = evC E (evF E o n) n 83 (E.at 83 []) 0 (enumT 0 args) S (retK E (E.fn 83)) := by
  rw [evF, ho]; kernel_rfl
theorem J83_eq (call : CallA) (n : Nat) (x0a : Option Pos) (x0l : Nat) (x0c : Cap) (x1 : Int) (x2 : Option Pos) (S : AS) : evC E call n 83 (E.at 83 []) 0 (enumT 0 [(.sl x0a x0l x0c), (.int .i64 x1), (.ptr x2)]) S (retK E (E.fn 83)) = J83 call n x0a x0l x0c x1 x2 S := by
  rw [J83, a83_entry]
theorem F83 {o : Orc} (n : Nat) (x0a : Option Pos) (x0l : Nat) (x0c : Cap) (x1 : Int) (x2 : Option Pos) (S : AS) (ho : ∀ args, o 83 args = none) : evF E o (n + 1) (.fn 83) [(.sl x0a x0l x0c), (.int .i64 x1), (.ptr x2)] S = J83 (evF E o n) n x0a x0l x0c x1 x2 S := (run83 o n [(.sl x0a x0l x0c), (.int .i64 x1), (.ptr x2)] S (ho _)).trans (J83_eq _ _ x0a x0l x0c x1 x2 S)
def b84_entry (call : CallA) (n : Nat)  (x0a : Option Pos) (x0l : Nat) (x0c : Cap) (x1 : Int) (x2 : Int) (x3 : Int) (x4 : Option Pos) (S : AS) : Option (AV × AS) :=
 callT call 86 [(.sl x0a x0l x0c), (.int .i64 x1), (.int .i64 x2), (.ptr x4)] S fun v2 S1 =>
 atI .i64 v2 0 fun v3 =>
 atI .i64 v2 1 fun v4 =>
 callT call 86 [(.sl x0a x0l x0c), (.int .i64 v4), (.int .i64 x3), (.ptr x4)] S1 fun v6 S5 =>
 atI .i64 v6 0 fun v7 =>
 atI .i64 v6 1 fun v8 =>
 callT call 86 [(.sl x0a x0l x0c), (.int .i64 v3), (.int .i64 v7), (.ptr x4)] S5 fun v10 S9 =>
 atI .i64 v10 0 fun v11 =>
 atI .i64 v10 1 fun v12 =>
 some ((.int .i64 v12), S9)

theorem a84_entry (call : CallA) (n : Nat) (x0a : Option Pos) (x0l : Nat) (x0c : Cap) (x1 : Int) (x2 : Int) (x3 : Int) (x4 : Option Pos) (S : AS) : evC E call n 84 (E.at 84 []) 0 (enumT 0 [(.sl x0a x0l x0c), (.int .i64 x1), (.int .i64 x2), (.int .i64 x3), (.ptr x4)]) S (retK E (E.fn 84)) = b84_entry call n  x0a x0l x0c x1 x2 x3 x4 S := by kernel_rfl
def J84 (call : CallA) (n : Nat) (x0a : Option Pos) (x0l : Nat) (x0c : Cap) (x1 : Int) (x2 : Int) (x3 : Int) (x4 : Option Pos) (S : AS) : Option (AV × AS) := b84_entry call n  x0a x0l x0c x1 x2 x3 x4 S
theorem run84 (o : Orc) (n : Nat) (args : List AV) (S : AS) (ho : o 84 args = none) : evF E o (n + 1) (.fn 84) args S = evC E (evF E o n) n 84 (E.at 84 []) 0 (enumT 0 args) S (retK E (E.fn 84)) := by
  rw [evF, ho]; kernel_rfl
theorem J84_eq (call : CallA) (n : Nat) (x0a : Option Pos) (x0l : Nat) (x0c : Cap) (x1 : Int) (x2 : Int) (x3 : Int) (x4 : Option Pos) (S : AS) : evC E call n 84 (E.at 84 []) 0 (enumT 0 [(.sl x0a x0l x0c), (.int .i64 x1), (.int .i64 x2), (.int .i64 x3), (.ptr x4)]) S (retK E (E.fn 84)) = J84 call n x0a x0l x0c x1 x2 x3 x4 S := by
  rw [J84, a84_entry]
theorem F84 {o : Orc} (n : Nat) (x0a : Option Pos) (x0l : Nat) (x0c : Cap) (x1 : Int) (x2 : Int) (x3 : Int) (x4 : Option Pos) (S : AS) (ho : ∀ args, o 84 args = none) : evF E o (n + 1) (.fn 84) [(.sl x0a x0l x0c), (.int .i64 x1), (.int .i64 x2), (.int .i64 x3), (.ptr x4)] S = J84 (evF E o n) n x0a x0l x0c x1 x2 x3 x4 S := (run84 o n [(.sl x0a x0l x0c), (.int .i64 x1), (.int .i64 x2), (.int .i64 x3), (.ptr x4)] S (ho _)).trans (J84_eq _ _ x0a x0l x0c x1 x2 x3 x4 S)
def b85_entry (call : CallA) (n : Nat)  (x0 : Int) (S : AS) : Option (AV × AS) :=
 some ((.bool (x0 != x0)), S)

theorem a85_entry (call : CallA) (n : Nat) (x0 : Int) (S : AS) : evC E call n 85 (E.at 85 []) 0 (enumT 0 [(.int .i64 x0)]) S (retK E (E.fn 85)) = b85_entry call n  x0 S := by kernel_rfl
def J85 (call : CallA) (n : Nat) (x0 : Int) (S : AS) : Option (AV × AS) := b85_entry call n  x0 S
theorem run85 (o : Orc) (n : Nat) (args : List AV) (S : AS) (ho : o 85 args = none) : evF E o (n + 1) (.fn 85) args S = evC E (evF E o n) n 85 (E.at 85 []) 0 (enumT 0 args) S (retK E (E.fn 85)) := by
  rw [evF, ho]; kernel_rfl
theorem J85_eq (call : CallA) (n : Nat) (x0 : Int) (S : AS) : evC E call n 85 (E.at 85 []) 0 (enumT 0 [(.int .i64 x0)]) S (retK E (E.fn 85)) = J85 call n x0 S := by
  rw [J85, a85_entry]
theorem F85 {o : Orc} (n : Nat) (x0 : Int) (S : AS) (ho : ∀ args, o 85 args = none) : evF E o (n + 1) (.fn 85) [(.int .i64 x0)] S = J85 (evF E o n) n x0 S := (run85 o n [(.int .i64 x0)] S (ho _)).trans (J85_eq _ _ x0 S)
def b86_entry (call : CallA) (n : Nat)  (x0a : Option Pos) (x0l : Nat) (x0c : Cap) (x1 : Int) (x2 : Int) (x3 : Option Pos) (S : AS) : Option (AV × AS) :=
 ixSl 1 x0a x0l x2 fun p1 =>
 ldI .i64 S p1.1 p1.2 fun v2 =>
 ixSl 1 x0a x0l x1 fun p3 =>
 ldI .i64 S p3.1 p3.2 fun v4 =>
 callB call 75 [(.int .i64 v2), (.int .i64 v4)] S fun v6 S5 =>
 cond v6 (
 gO x3 fun p7 =>
 ldI .i64 S5 p7.1 p7.2 fun v8 =>
 gO x3 fun p9 =>
 S5.stn p9.1 p9.2 [(.int .i64 (IntKind.wrap .i64 (v8 + 1)))] fun S10 =>
 some (.tup [(.int .i64 x2), (.int .i64 x1)], S10)) (
 some (.tup [(.int .i64 x1), (.int .i64 x2)], S5))

theorem a86_entry (call : CallA) (n : Nat) (x0a : Option Pos) (x0l : Nat) (x0c : Cap) (x1 : Int) (x2 : Int) (x3 : Option Pos) (S : AS) : evC E call n 86 (E.at 86 []) 0 (enumT 0 [(.sl x0a x0l x0c), (.int .i64 x1), (.int .i64 x2), (.ptr x3)]) S (retK E (E.fn 86)) = b86_entry call n  x0a x0l x0c x1 x2 x3 S := by kernel_rfl
def J86 (call : CallA) (n : Nat) (x0a : Option Pos) (x0l : Nat) (x0c : Cap) (x1 : Int) (x2 : Int) (x3 : Option Pos) (S : AS) : Option (AV × AS) := b86_entry call n  x0a x0l x0c x1 x2 x3 S
theorem run86 (o : Orc) (n : Nat) (args : List AV) (S : AS) (ho : o 86 args = none) : evF E o (n + 1) (.fn 86) args S = evC E (evF E o n) n 86 (E.at 86 []) 0 (enumT 0 args) S (retK E (E.fn 86)) := by
  rw [evF, ho]; kernel_rfl
theorem J86_eq (call : CallA) (n : Nat) (x0a : Option Pos) (x0l : Nat) (x0c : Cap) (x1 : Int) (x2 : Int) (x3 : Option Pos) (S : AS) : evC E call n 86 (E.at 86 []) 0 (enumT 0 [(.sl x0a x0l x0c), (.int .i64 x1), (.int .i64 x2), (.ptr x3)]) S (retK E (E.fn 86)) = J86 call n x0a x0l x0c x1 x2 x3 S := by
  rw [J86, a86_entry]
theorem F86 {o : Orc} (n : Nat) (x0a : Option Pos) (x0l : Nat) (x0c : Cap) (x1 : Int) (x2 : Int) (x3 : Option Pos) (S : AS) (ho : ∀ args, o 86 args = none) : evF E o (n + 1) (.fn 86) [(.sl x0a x0l x0c), (.int .i64 x1), (.int .i64 x2), (.ptr x3)] S = J86 (evF E o n) n x0a x0l x0c x1 x2 x3 S := (run86 o n [(.sl x0a x0l x0c), (.int .i64 x1), (.int .i64 x2), (.ptr x3)] S (ho _)).trans (J86_eq _ _ x0a x0l x0c x1 x2 x3 S)
end
end Go.Al
