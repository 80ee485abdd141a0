/- Plain readings of the functions, and that they are what the evaluator does: by program. -/
import Derived.Test.YtjninokocidaaaaGrRes
import Derived.Test.YtjninokocidaaaaENV
import Derived.KernelRfl
set_option maxRecDepth 100000
set_option linter.unusedVariables false
namespace Go.Al
open Go.Gr
noncomputable section
def b7_l1_1_1_1_1_0_1_0 (call : CallA) (n : Nat) (l1_1_1_1_1_0_1_0 : Int → Bool → Option Pos → Option Pos → Int → AS → Option (AV × AS)) (j1_1_1_1_1_1 : Option Pos → Option Pos → AS → Option (AV × AS)) (w0 : Int) (w4 : Bool) (w5 : Option Pos) (w6 : Option Pos) (w7 : Int) (S : AS) : Option (AV × AS) :=
 cond (decide (w7 < w0)) (
 callI .i64 call 19 [(.ptr w5), (.int .i64 w7)] S fun v12 S11 =>
 cond (decide (v12 < 0)) (
 some ((.bool false), S11)) (
 cond (decide (v12 > 4)) (
 some ((.bool false), S11)) (
 gO w6 fun p14 =>
 ixArr 1 p14 5 v12 fun p13 =>
 ldI .i64 S11 p13.1 p13.2 fun v15 =>
 gO w6 fun p17 =>
 ixArr 1 p17 5 v12 fun p16 =>
 S11.stn p16.1 p16.2 [(.int .i64 (IntKind.wrap .i64 (v15 + 1)))] fun S18 =>
 l1_1_1_1_1_0_1_0 w0 w4 w5 w6 (IntKind.wrap .i64 (w7 + 1)) S18))) (
 j1_1_1_1_1_1 w5 w6 S)

def b7_j1_1_1_1_1_1 (call : CallA) (n : Nat) (l1_1_1_1_1_1_1_1_0_1_0 : Option Pos → Option Pos → Int → Option Pos → Nat → Cap → Int → AS → Option (AV × AS)) (w5 : Option Pos) (w6 : Option Pos) (S : AS) : Option (AV × AS) :=
 callL call 28 [(.ptr w5)] S fun v20a v20l v20c S19 =>
 l1_1_1_1_1_1_1_1_0_1_0 w5 w6 0 v20a v20l v20c 0 S19

def b7_l1_1_1_1_1_1_1_1_0_1_0 (call : CallA) (n : Nat) (l1_1_1_1_1_1_1_1_0_1_0 : Option Pos → Option Pos → Int → Option Pos → Nat → Cap → Int → AS → Option (AV × AS)) (j1_1_1_1_1_1_1_1_1 : Option Pos → Option Pos → Int → AS → Option (AV × AS)) (w5 : Option Pos) (w6 : Option Pos) (w9 : Int) (w10a : Option Pos) (w10l : Nat) (w10c : Cap) (w11 : Int) (S : AS) : Option (AV × AS) :=
 cond (decide (w11 < ((w10l : Nat) : Int))) (
 ixSl 2 w10a w10l w11 fun p21 =>
 ixArr 1 p21 2 1 fun p22 =>
 ldI .i64 S p22.1 p22.2 fun v23 =>
 l1_1_1_1_1_1_1_1_0_1_0 w5 w6 (IntKind.wrap .i64 (w9 + v23)) w10a w10l w10c (IntKind.wrap .i64 (w11 + 1)) S) (
 j1_1_1_1_1_1_1_1_1 w5 w6 w9 S)

def b7_j1_1_1_1_1_1_1_1_1 (call : CallA) (n : Nat)  (w5 : Option Pos) (w6 : Option Pos) (w9 : Int) (S : AS) : Option (AV × AS) :=
 gO w6 fun p25 =>
 ixArr 1 p25 5 0 fun p24 =>
 ldI .i64 S p24.1 p24.2 fun v26 =>
 callI .i64 call 15 [(.ptr w5)] S fun v28 S27 =>
 ldI .i64 S27 p24.1 p24.2 fun v29 =>
 cond (AV.beq (.int .i64 v29) (.int .i64 v26)) (
 cond (v26 == v28) (
 callI .i64 call 15 [(.ptr w5)] S27 fun v31 S30 =>
 cond (w9 == v31) (
 gO w6 fun p33 =>
 ixArr 1 p33 5 2 fun p32 =>
 ldI .i64 S30 p32.1 p32.2 fun v34 =>
 callL call 26 [(.ptr w5)] S30 fun v36a v36l v36c S35 =>
 ldI .i64 S35 p32.1 p32.2 fun v37 =>
 cond (AV.beq (.int .i64 v37) (.int .i64 v34)) (
 cond (v34 == ((v36l : Nat) : Int)) (
 gO w6 fun p39 =>
 ixArr 1 p39 5 3 fun p38 =>
 ldI .i64 S35 p38.1 p38.2 fun v40 =>
 callL call 27 [(.ptr w5)] S35 fun v42a v42l v42c S41 =>
 ldI .i64 S41 p38.1 p38.2 fun v43 =>
 cond (AV.beq (.int .i64 v43) (.int .i64 v40)) (
 cond (v40 == ((v42l : Nat) : Int)) (
 gO w6 fun p45 =>
 ixArr 1 p45 5 4 fun p44 =>
 ldI .i64 S41 p44.1 p44.2 fun v46 =>
 cond (v46 == 0) (
 callI .i64 call 23 [(.ptr w5)] S41 fun v48 S47 =>
 cond (decide (v48 ≥ 0)) (
 callI .i64 call 23 [(.ptr w5)] S47 fun v50 S49 =>
 callI .i64 call 15 [(.ptr w5)] S49 fun v52 S51 =>
 cond (decide (v50 ≤ v52)) (
 callB call 12 [] S51 fun v54 S53 =>
 some ((.bool v54), S53)) (
 some ((.bool false), S51))) (
 some ((.bool false), S47))) (
 callI .i64 call 29 [(.ptr w5)] S41 fun v56 S55 =>
 cond (decide (v56 > 0)) (
 callI .i64 call 23 [(.ptr w5)] S55 fun v58 S57 =>
 cond (decide (v58 ≥ 0)) (
 callI .i64 call 23 [(.ptr w5)] S57 fun v60 S59 =>
 callI .i64 call 15 [(.ptr w5)] S59 fun v62 S61 =>
 cond (decide (v60 ≤ v62)) (
 callB call 12 [] S61 fun v64 S63 =>
 some ((.bool v64), S63)) (
 some ((.bool false), S61))) (
 some ((.bool false), S57))) (
 some ((.bool false), S55)))) (
 some ((.bool false), S41))) none) (
 some ((.bool false), S35))) none) (
 some ((.bool false), S30))) (
 some ((.bool false), S27))) none

def b7_entry (call : CallA) (n : Nat) (l1_1_1_1_1_0_1_0 : Int → Bool → Option Pos → Option Pos → Int → AS → Option (AV × AS)) (x0 : Int) (x1a : Option Pos) (x1l : Nat) (x1c : Cap) (S : AS) : Option (AV × AS) :=
 cond (decide (((x1l : Nat) : Int) > 80)) (
 callB call 12 [] S fun v2 S1 =>
 some ((.bool v2), S1)) (
 cond (decide (x0 > 200)) (
 callB call 12 [] S fun v4 S3 =>
 some ((.bool v4), S3)) (
 callP call 17 [(.int .i64 x0), (.sl x1a x1l x1c)] S fun v6 S5 =>
 cond v6.isNone (
 cond (decide (x0 < 1)) (
 callB call 12 [] S5 fun v8 S7 =>
 some ((.bool v8), S7)) (
 some ((.bool false), S5))) (
 newA S5 (.cells [(.int .i64 0), (.int .i64 0), (.int .i64 0), (.int .i64 0), (.int .i64 0)]) fun b9 S10 =>
 l1_1_1_1_1_0_1_0 x0 false v6 (some ((.rw b9), 0)) 0 S10)))

def r7_l1_1_1_1_1_0_1_0 (call : CallA) (n : Nat)  (m : Nat) (w0 : Int) (w4 : Bool) (w5 : Option Pos) (w6 : Option Pos) (w7 : Int) (S : AS) : Option (AV × AS) := loopN (evC E call n 7 (E.at 7 [1, 1, 1, 1, 1, 0, 1, 0, 0]) 0) [0, 4, 5, 6, 7] m [(0, (.int .i64 w0)), (4, (.bool w4)), (5, (.ptr w5)), (6, (.ptr w6)), (7, (.int .i64 w7))] S (kBlk 0 (kSeq E call n 7 (E.at 7 [1, 1, 1, 1, 1, 1]) 0 (retK E (E.fn 7))))
def r7_j1_1_1_1_1_1 (call : CallA) (n : Nat)  (w5 : Option Pos) (w6 : Option Pos) (S : AS) : Option (AV × AS) := evC E call n 7 (E.at 7 [1, 1, 1, 1, 1, 1]) 0 [(5, (.ptr w5)), (6, (.ptr w6))] S (retK E (E.fn 7))
def r7_l1_1_1_1_1_1_1_1_0_1_0 (call : CallA) (n : Nat)  (m : Nat) (w5 : Option Pos) (w6 : Option Pos) (w9 : Int) (w10a : Option Pos) (w10l : Nat) (w10c : Cap) (w11 : Int) (S : AS) : Option (AV × AS) := loopN (evC E call n 7 (E.at 7 [1, 1, 1, 1, 1, 1, 1, 1, 0, 1, 0, 0]) 2) [5, 6, 9, 10, 11] m [(5, (.ptr w5)), (6, (.ptr w6)), (9, (.int .i64 w9)), (10, (.sl w10a w10l w10c)), (11, (.int .i64 w11))] S (kBlk 2 (kSeq E call n 7 (E.at 7 [1, 1, 1, 1, 1, 1, 1, 1, 1]) 0 (retK E (E.fn 7))))
def r7_j1_1_1_1_1_1_1_1_1 (call : CallA) (n : Nat)  (w5 : Option Pos) (w6 : Option Pos) (w9 : Int) (S : AS) : Option (AV × AS) := evC E call n 7 (E.at 7 [1, 1, 1, 1, 1, 1, 1, 1, 1]) 0 [(5, (.ptr w5)), (6, (.ptr w6)), (9, (.int .i64 w9))] S (retK E (E.fn 7))
theorem a7_l1_1_1_1_1_0_1_0 (call : CallA) (n : Nat)  (m : Nat) (w0 : Int) (w4 : Bool) (w5 : Option Pos) (w6 : Option Pos) (w7 : Int) (S : AS) : r7_l1_1_1_1_1_0_1_0 call n  (m + 1) w0 w4 w5 w6 w7 S = b7_l1_1_1_1_1_0_1_0 call n (r7_l1_1_1_1_1_0_1_0 call n  m) (r7_j1_1_1_1_1_1 call n ) w0 w4 w5 w6 w7 S := by kernel_rfl
theorem a7_j1_1_1_1_1_1 (call : CallA) (n : Nat)  (w5 : Option Pos) (w6 : Option Pos) (S : AS) : r7_j1_1_1_1_1_1 call n  w5 w6 S = b7_j1_1_1_1_1_1 call n (r7_l1_1_1_1_1_1_1_1_0_1_0 call n  n) w5 w6 S := by kernel_rfl
theorem a7_l1_1_1_1_1_1_1_1_0_1_0 (call : CallA) (n : Nat)  (m : Nat) (w5 : Option Pos) (w6 : Option Pos) (w9 : Int) (w10a : Option Pos) (w10l : Nat) (w10c : Cap) (w11 : Int) (S : AS) : r7_l1_1_1_1_1_1_1_1_0_1_0 call n  (m + 1) w5 w6 w9 w10a w10l w10c w11 S = b7_l1_1_1_1_1_1_1_1_0_1_0 call n (r7_l1_1_1_1_1_1_1_1_0_1_0 call n  m) (r7_j1_1_1_1_1_1_1_1_1 call n ) w5 w6 w9 w10a w10l w10c w11 S := by kernel_rfl
theorem a7_j1_1_1_1_1_1_1_1_1 (call : CallA) (n : Nat)  (w5 : Option Pos) (w6 : Option Pos) (w9 : Int) (S : AS) : r7_j1_1_1_1_1_1_1_1_1 call n  w5 w6 w9 S = b7_j1_1_1_1_1_1_1_1_1 call n  w5 w6 w9 S := by kernel_rfl
theorem a7_entry (call : CallA) (n : Nat) (x0 : Int) (x1a : Option Pos) (x1l : Nat) (x1c : Cap) (S : AS) : evC E call n 7 (E.at 7 []) 0 (enumT 0 [(.int .i64 x0), (.sl x1a x1l x1c)]) S (retK E (E.fn 7)) = b7_entry call n (r7_l1_1_1_1_1_0_1_0 call n  n) x0 x1a x1l x1c S := by kernel_rfl
def J7_j1_1_1_1_1_1_1_1_1 (call : CallA) (n : Nat)  (w5 : Option Pos) (w6 : Option Pos) (w9 : Int) (S : AS) : Option (AV × AS) := b7_j1_1_1_1_1_1_1_1_1 call n  w5 w6 w9 S
theorem h7_j1_1_1_1_1_1_1_1_1 (call : CallA) (n : Nat)  : r7_j1_1_1_1_1_1_1_1_1 call n  = J7_j1_1_1_1_1_1_1_1_1 call n  := by
  funext w5 w6 w9 S
  rw [J7_j1_1_1_1_1_1_1_1_1, a7_j1_1_1_1_1_1_1_1_1]
def J7_l1_1_1_1_1_1_1_1_0_1_0 (call : CallA) (n : Nat)  (m : Nat) : Option Pos → Option Pos → Int → Option Pos → Nat → Cap → Int → AS → Option (AV × AS) := Nat.rec (motive := fun _ => Option Pos → Option Pos → Int → Option Pos → Nat → Cap → Int → AS → Option (AV × AS)) (fun _ _ _ _ _ _ _ _ => none) (fun _ ih w5 w6 w9 w10a w10l w10c w11 S => b7_l1_1_1_1_1_1_1_1_0_1_0 call n ih (J7_j1_1_1_1_1_1_1_1_1 call n ) w5 w6 w9 w10a w10l w10c w11 S) m
theorem J7_l1_1_1_1_1_1_1_1_0_1_0_succ (call : CallA) (n : Nat)  (m : Nat) (w5 : Option Pos) (w6 : Option Pos) (w9 : Int) (w10a : Option Pos) (w10l : Nat) (w10c : Cap) (w11 : Int) (S : AS) : J7_l1_1_1_1_1_1_1_1_0_1_0 call n  (m + 1) w5 w6 w9 w10a w10l w10c w11 S = b7_l1_1_1_1_1_1_1_1_0_1_0 call n (J7_l1_1_1_1_1_1_1_1_0_1_0 call n  m) (J7_j1_1_1_1_1_1_1_1_1 call n ) w5 w6 w9 w10a w10l w10c w11 S := rfl
theorem h7_l1_1_1_1_1_1_1_1_0_1_0 (call : CallA) (n : Nat)  (m : Nat) : r7_l1_1_1_1_1_1_1_1_0_1_0 call n  m = J7_l1_1_1_1_1_1_1_1_0_1_0 call n  m := by
  induction m with
  | zero => rfl
  | succ m ih =>
    funext w5 w6 w9 w10a w10l w10c w11 S
    rw [J7_l1_1_1_1_1_1_1_1_0_1_0_succ, a7_l1_1_1_1_1_1_1_1_0_1_0, h7_j1_1_1_1_1_1_1_1_1 call n , ih]
def J7_j1_1_1_1_1_1 (call : CallA) (n : Nat)  (w5 : Option Pos) (w6 : Option Pos) (S : AS) : Option (AV × AS) := b7_j1_1_1_1_1_1 call n (J7_l1_1_1_1_1_1_1_1_0_1_0 call n  n) w5 w6 S
theorem h7_j1_1_1_1_1_1 (call : CallA) (n : Nat)  : r7_j1_1_1_1_1_1 call n  = J7_j1_1_1_1_1_1 call n  := by
  funext w5 w6 S
  rw [J7_j1_1_1_1_1_1, a7_j1_1_1_1_1_1, h7_l1_1_1_1_1_1_1_1_0_1_0 call n  n]
def J7_l1_1_1_1_1_0_1_0 (call : CallA) (n : Nat)  (m : Nat) : Int → Bool → Option Pos → Option Pos → Int → AS → Option (AV × AS) := Nat.rec (motive := fun _ => Int → Bool → Option Pos → Option Pos → Int → AS → Option (AV × AS)) (fun _ _ _ _ _ _ => none) (fun _ ih w0 w4 w5 w6 w7 S => b7_l1_1_1_1_1_0_1_0 call n ih (J7_j1_1_1_1_1_1 call n ) w0 w4 w5 w6 w7 S) m
theorem J7_l1_1_1_1_1_0_1_0_succ (call : CallA) (n : Nat)  (m : Nat) (w0 : Int) (w4 : Bool) (w5 : Option Pos) (w6 : Option Pos) (w7 : Int) (S : AS) : J7_l1_1_1_1_1_0_1_0 call n  (m + 1) w0 w4 w5 w6 w7 S = b7_l1_1_1_1_1_0_1_0 call n (J7_l1_1_1_1_1_0_1_0 call n  m) (J7_j1_1_1_1_1_1 call n ) w0 w4 w5 w6 w7 S := rfl
theorem h7_l1_1_1_1_1_0_1_0 (call : CallA) (n : Nat)  (m : Nat) : r7_l1_1_1_1_1_0_1_0 call n  m = J7_l1_1_1_1_1_0_1_0 call n  m := by
  induction m with
  | zero => rfl
  | succ m ih =>
    funext w0 w4 w5 w6 w7 S
    rw [J7_l1_1_1_1_1_0_1_0_succ, a7_l1_1_1_1_1_0_1_0, h7_j1_1_1_1_1_1 call n , ih]
def J7 (call : CallA) (n : Nat) (x0 : Int) (x1a : Option Pos) (x1l : Nat) (x1c : Cap) (S : AS) : Option (AV × AS) := b7_entry call n (J7_l1_1_1_1_1_0_1_0 call n  n) x0 x1a x1l x1c S
theorem run7 (o : Orc) (n : Nat) (args : List AV) (S : AS) (ho : o 7 args = none) : evF E o (n + 1) (.fn 7) args S = evC E (evF E o n) n 7 (E.at 7 []) 0 (enumT 0 args) S (retK E (E.fn 7)) := by
  rw [evF, ho]; kernel_rfl
theorem J7_eq (call : CallA) (n : Nat) (x0 : Int) (x1a : Option Pos) (x1l : Nat) (x1c : Cap) (S : AS) : evC E call n 7 (E.at 7 []) 0 (enumT 0 [(.int .i64 x0), (.sl x1a x1l x1c)]) S (retK E (E.fn 7)) = J7 call n x0 x1a x1l x1c S := by
  rw [J7, a7_entry, h7_l1_1_1_1_1_0_1_0 call n  n]
theorem F7 {o : Orc} (n : Nat) (x0 : Int) (x1a : Option Pos) (x1l : Nat) (x1c : Cap) (S : AS) (ho : ∀ args, o 7 args = none) : evF E o (n + 1) (.fn 7) [(.int .i64 x0), (.sl x1a x1l x1c)] S = J7 (evF E o n) n x0 x1a x1l x1c S := (run7 o n [(.int .i64 x0), (.sl x1a x1l x1c)] S (ho _)).trans (J7_eq _ _ x0 x1a x1l x1c S)
def b8_l1_1_1_1_1_1_0_1_0 (call : CallA) (n : Nat) (l1_1_1_1_1_1_0_1_0 : Option Pos → Nat → Cap → Option Pos → Nat → Cap → Option Pos → Option Pos → Int → AS → Option (AV × AS)) (j1_1_1_1_1_1_1 : Option Pos → Nat → Cap → Option Pos → Option Pos → AS → Option (AV × AS)) (w2a : Option Pos) (w2l : Nat) (w2c : Cap) (w7a : Option Pos) (w7l : Nat) (w7c : Cap) (w8 : Option Pos) (w10 : Option Pos) (w12 : Int) (S : AS) : Option (AV × AS) :=
 cond (decide (w12 < ((w7l : Nat) : Int))) (
 ixSl 1 w7a w7l w12 fun p39 =>
 S.stn p39.1 p39.2 [(.int .u8 255)] fun S40 =>
 l1_1_1_1_1_1_0_1_0 w2a w2l w2c w7a w7l w7c w8 w10 (IntKind.wrap .i64 (w12 + 1)) S40) (
 j1_1_1_1_1_1_1 w2a w2l w2c w8 w10 S)

def b8_j1_1_1_1_1_1_1 (call : CallA) (n : Nat) (l1_1_1_1_1_1_1_0_1_0 : Option Pos → Nat → Cap → AV → Option Pos → Option Pos → Int → AS → Option (AV × AS)) (w2a : Option Pos) (w2l : Nat) (w2c : Cap) (w8 : Option Pos) (w10 : Option Pos) (S : AS) : Option (AV × AS) :=
 l1_1_1_1_1_1_1_0_1_0 w2a w2l w2c .undef w8 w10 0 S

def b8_l1_1_1_1_1_1_1_0_1_0 (call : CallA) (n : Nat) (l1_1_1_1_1_1_1_0_1_0 : Option Pos → Nat → Cap → AV → Option Pos → Option Pos → Int → AS → Option (AV × AS)) (j1_1_1_1_1_1_1_1 : Option Pos → Option Pos → AS → Option (AV × AS)) (w2a : Option Pos) (w2l : Nat) (w2c : Cap) (w6 : AV) (w8 : Option Pos) (w10 : Option Pos) (w13 : Int) (S : AS) : Option (AV × AS) :=
 cond (!w8.isNone) (
 cond (decide (w13 < ((w2l : Nat) : Int))) (
 ixSl 2 w2a w2l w13 fun p41 =>
 S.ldn p41.1 p41.2 2 fun g42 =>
 callT call 31 [(.ptr w8), (.ptr w10), (.agg g42)] S fun v44 S43 =>
 atP v44 0 fun v45 =>
 atB v44 1 fun v46 =>
 cond (!v46) (
 some ((.bool false), S43)) (
 cond v45.isNone (
 some ((.bool false), S43)) (
 callB call 32 [(.ptr v45), (.ptr w10)] S43 fun v48 S47 =>
 cond (!v48) (
 some ((.bool false), S47)) (
 l1_1_1_1_1_1_1_0_1_0 w2a w2l w2c w6 v45 w10 (IntKind.wrap .i64 (w13 + 1)) S47)))) (
 j1_1_1_1_1_1_1_1 w8 w10 S)) (
 j1_1_1_1_1_1_1_1 w8 w10 S)

def b8_j1_1_1_1_1_1_1_1 (call : CallA) (n : Nat)  (w8 : Option Pos) (w10 : Option Pos) (S : AS) : Option (AV × AS) :=
 cond w8.isNone (
 some ((.bool true), S)) (
 callB call 32 [(.ptr w8), (.ptr w10)] S fun v50 S49 =>
 some ((.bool v50), S49))

def b8_entry (call : CallA) (n : Nat) (l1_1_1_1_1_1_0_1_0 : Option Pos → Nat → Cap → Option Pos → Nat → Cap → Option Pos → Option Pos → Int → AS → Option (AV × AS)) (x0 : Int) (x1a : Option Pos) (x1l : Nat) (x1c : Cap) (x2a : Option Pos) (x2l : Nat) (x2c : Cap) (S : AS) : Option (AV × AS) :=
 cond (decide (((x2l : Nat) : Int) > 80)) (
 callB call 12 [] S fun v2 S1 =>
 some ((.bool v2), S1)) (
 cond (decide (((x1l : Nat) : Int) > 1000)) (
 callB call 12 [] S fun v4 S3 =>
 some ((.bool v4), S3)) (
 cond (decide (x0 > 200)) (
 cond (decide (x0 ≤ 65536)) (
 callB call 12 [] S fun v6 S5 =>
 some ((.bool v6), S5)) (
 newA S (.cells []) fun b7 S8 =>
 appendA 1 1 S8 (some (.rw b7, 0)) 0 (.ex 0) x1l (firstA S8 1 x1l (.sl x1a x1l x1c)) fun v9a v9l v9c S10 =>
 callT call 24 [(.int .i64 x0), (.sl v9a v9l v9c)] S10 fun v12 S11 =>
 atP v12 0 fun v13 =>
 atI .i64 v12 1 fun v14 =>
 callT call 30 [(.int .i64 x0), (.sl x1a x1l x1c)] S11 fun v16 S15 =>
 atP v16 0 fun v17 =>
 atI .i64 v16 1 fun v18 =>
 callI .i64 call 11 [(.int .i64 v14)] S15 fun v20 S19 =>
 cond (v20 != v18) (
 some ((.bool false), S19)) (
 cond (!(v13.isNone == v17.isNone)) (
 some ((.bool false), S19)) (
 callB call 12 [] S19 fun v22 S21 =>
 cond (!v22) (
 some ((.bool false), S21)) (
 l1_1_1_1_1_1_0_1_0 x2a x2l x2c v9a v9l v9c v13 v17 0 S21))))) (
 newA S (.cells []) fun b23 S24 =>
 appendA 1 1 S24 (some (.rw b23, 0)) 0 (.ex 0) x1l (firstA S24 1 x1l (.sl x1a x1l x1c)) fun v25a v25l v25c S26 =>
 callT call 24 [(.int .i64 x0), (.sl v25a v25l v25c)] S26 fun v28 S27 =>
 atP v28 0 fun v29 =>
 atI .i64 v28 1 fun v30 =>
 callT call 30 [(.int .i64 x0), (.sl x1a x1l x1c)] S27 fun v32 S31 =>
 atP v32 0 fun v33 =>
 atI .i64 v32 1 fun v34 =>
 callI .i64 call 11 [(.int .i64 v30)] S31 fun v36 S35 =>
 cond (v36 != v34) (
 some ((.bool false), S35)) (
 cond (!(v29.isNone == v33.isNone)) (
 some ((.bool false), S35)) (
 callB call 12 [] S35 fun v38 S37 =>
 cond (!v38) (
 some ((.bool false), S37)) (
 l1_1_1_1_1_1_0_1_0 x2a x2l x2c v25a v25l v25c v29 v33 0 S37))))))

def r8_l1_1_1_1_1_1_0_1_0 (call : CallA) (n : Nat)  (m : Nat) (w2a : Option Pos) (w2l : Nat) (w2c : Cap) (w7a : Option Pos) (w7l : Nat) (w7c : Cap) (w8 : Option Pos) (w10 : Option Pos) (w12 : Int) (S : AS) : Option (AV × AS) := loopN (evC E call n 8 (E.at 8 [1, 1, 1, 1, 1, 1, 0, 1, 0, 0]) 0) [2, 7, 8, 10, 12] m [(2, (.sl w2a w2l w2c)), (7, (.sl w7a w7l w7c)), (8, (.ptr w8)), (10, (.ptr w10)), (12, (.int .i64 w12))] S (kBlk 0 (kSeq E call n 8 (E.at 8 [1, 1, 1, 1, 1, 1, 1]) 0 (retK E (E.fn 8))))
def r8_j1_1_1_1_1_1_1 (call : CallA) (n : Nat)  (w2a : Option Pos) (w2l : Nat) (w2c : Cap) (w8 : Option Pos) (w10 : Option Pos) (S : AS) : Option (AV × AS) := evC E call n 8 (E.at 8 [1, 1, 1, 1, 1, 1, 1]) 0 [(2, (.sl w2a w2l w2c)), (8, (.ptr w8)), (10, (.ptr w10))] S (retK E (E.fn 8))
def r8_l1_1_1_1_1_1_1_0_1_0 (call : CallA) (n : Nat)  (m : Nat) (w2a : Option Pos) (w2l : Nat) (w2c : Cap) (w6 : AV) (w8 : Option Pos) (w10 : Option Pos) (w13 : Int) (S : AS) : Option (AV × AS) := loopN (evC E call n 8 (E.at 8 [1, 1, 1, 1, 1, 1, 1, 0, 1, 0, 0]) 2) [2, 6, 8, 10, 13] m [(2, (.sl w2a w2l w2c)), (6, w6), (8, (.ptr w8)), (10, (.ptr w10)), (13, (.int .i64 w13))] S (kBlk 2 (kSeq E call n 8 (E.at 8 [1, 1, 1, 1, 1, 1, 1, 1]) 0 (retK E (E.fn 8))))
def r8_j1_1_1_1_1_1_1_1 (call : CallA) (n : Nat)  (w8 : Option Pos) (w10 : Option Pos) (S : AS) : Option (AV × AS) := evC E call n 8 (E.at 8 [1, 1, 1, 1, 1, 1, 1, 1]) 0 [(8, (.ptr w8)), (10, (.ptr w10))] S (retK E (E.fn 8))
theorem a8_l1_1_1_1_1_1_0_1_0 (call : CallA) (n : Nat)  (m : Nat) (w2a : Option Pos) (w2l : Nat) (w2c : Cap) (w7a : Option Pos) (w7l : Nat) (w7c : Cap) (w8 : Option Pos) (w10 : Option Pos) (w12 : Int) (S : AS) : r8_l1_1_1_1_1_1_0_1_0 call n  (m + 1) w2a w2l w2c w7a w7l w7c w8 w10 w12 S = b8_l1_1_1_1_1_1_0_1_0 call n (r8_l1_1_1_1_1_1_0_1_0 call n  m) (r8_j1_1_1_1_1_1_1 call n ) w2a w2l w2c w7a w7l w7c w8 w10 w12 S := by kernel_rfl
theorem a8_j1_1_1_1_1_1_1 (call : CallA) (n : Nat)  (w2a : Option Pos) (w2l : Nat) (w2c : Cap) (w8 : Option Pos) (w10 : Option Pos) (S : AS) : r8_j1_1_1_1_1_1_1 call n  w2a w2l w2c w8 w10 S = b8_j1_1_1_1_1_1_1 call n (r8_l1_1_1_1_1_1_1_0_1_0 call n  n) w2a w2l w2c w8 w10 S := by kernel_rfl
theorem a8_l1_1_1_1_1_1_1_0_1_0 (call : CallA) (n : Nat)  (m : Nat) (w2a : Option Pos) (w2l : Nat) (w2c : Cap) (w6 : AV) (w8 : Option Pos) (w10 : Option Pos) (w13 : Int) (S : AS) : r8_l1_1_1_1_1_1_1_0_1_0 call n  (m + 1) w2a w2l w2c w6 w8 w10 w13 S = b8_l1_1_1_1_1_1_1_0_1_0 call n (r8_l1_1_1_1_1_1_1_0_1_0 call n  m) (r8_j1_1_1_1_1_1_1_1 call n ) w2a w2l w2c w6 w8 w10 w13 S := by kernel_rfl
theorem a8_j1_1_1_1_1_1_1_1 (call : CallA) (n : Nat)  (w8 : Option Pos) (w10 : Option Pos) (S : AS) : r8_j1_1_1_1_1_1_1_1 call n  w8 w10 S = b8_j1_1_1_1_1_1_1_1 call n  w8 w10 S := by kernel_rfl
theorem a8_entry (call : CallA) (n : Nat) (x0 : Int) (x1a : Option Pos) (x1l : Nat) (x1c : Cap) (x2a : Option Pos) (x2l : Nat) (x2c : Cap) (S : AS) : evC E call n 8 (E.at 8 []) 0 (enumT 0 [(.int .i64 x0), (.sl x1a x1l x1c), (.sl x2a x2l x2c)]) S (retK E (E.fn 8)) = b8_entry call n (r8_l1_1_1_1_1_1_0_1_0 call n  n) x0 x1a x1l x1c x2a x2l x2c S := by kernel_rfl
def J8_j1_1_1_1_1_1_1_1 (call : CallA) (n : Nat)  (w8 : Option Pos) (w10 : Option Pos) (S : AS) : Option (AV × AS) := b8_j1_1_1_1_1_1_1_1 call n  w8 w10 S
theorem h8_j1_1_1_1_1_1_1_1 (call : CallA) (n : Nat)  : r8_j1_1_1_1_1_1_1_1 call n  = J8_j1_1_1_1_1_1_1_1 call n  := by
  funext w8 w10 S
  rw [J8_j1_1_1_1_1_1_1_1, a8_j1_1_1_1_1_1_1_1]
def J8_l1_1_1_1_1_1_1_0_1_0 (call : CallA) (n : Nat)  (m : Nat) : Option Pos → Nat → Cap → AV → Option Pos → Option Pos → Int → AS → Option (AV × AS) := Nat.rec (motive := fun _ => Option Pos → Nat → Cap → AV → Option Pos → Option Pos → Int → AS → Option (AV × AS)) (fun _ _ _ _ _ _ _ _ => none) (fun _ ih w2a w2l w2c w6 w8 w10 w13 S => b8_l1_1_1_1_1_1_1_0_1_0 call n ih (J8_j1_1_1_1_1_1_1_1 call n ) w2a w2l w2c w6 w8 w10 w13 S) m
theorem J8_l1_1_1_1_1_1_1_0_1_0_succ (call : CallA) (n : Nat)  (m : Nat) (w2a : Option Pos) (w2l : Nat) (w2c : Cap) (w6 : AV) (w8 : Option Pos) (w10 : Option Pos) (w13 : Int) (S : AS) : J8_l1_1_1_1_1_1_1_0_1_0 call n  (m + 1) w2a w2l w2c w6 w8 w10 w13 S = b8_l1_1_1_1_1_1_1_0_1_0 call n (J8_l1_1_1_1_1_1_1_0_1_0 call n  m) (J8_j1_1_1_1_1_1_1_1 call n ) w2a w2l w2c w6 w8 w10 w13 S := rfl
theorem h8_l1_1_1_1_1_1_1_0_1_0 (call : CallA) (n : Nat)  (m : Nat) : r8_l1_1_1_1_1_1_1_0_1_0 call n  m = J8_l1_1_1_1_1_1_1_0_1_0 call n  m := by
  induction m with
  | zero => rfl
  | succ m ih =>
    funext w2a w2l w2c w6 w8 w10 w13 S
    rw [J8_l1_1_1_1_1_1_1_0_1_0_succ, a8_l1_1_1_1_1_1_1_0_1_0, h8_j1_1_1_1_1_1_1_1 call n , ih]
def J8_j1_1_1_1_1_1_1 (call : CallA) (n : Nat)  (w2a : Option Pos) (w2l : Nat) (w2c : Cap) (w8 : Option Pos) (w10 : Option Pos) (S : AS) : Option (AV × AS) := b8_j1_1_1_1_1_1_1 call n (J8_l1_1_1_1_1_1_1_0_1_0 call n  n) w2a w2l w2c w8 w10 S
theorem h8_j1_1_1_1_1_1_1 (call : CallA) (n : Nat)  : r8_j1_1_1_1_1_1_1 call n  = J8_j1_1_1_1_1_1_1 call n  := by
  funext w2a w2l w2c w8 w10 S
  rw [J8_j1_1_1_1_1_1_1, a8_j1_1_1_1_1_1_1, h8_l1_1_1_1_1_1_1_0_1_0 call n  n]
def J8_l1_1_1_1_1_1_0_1_0 (call : CallA) (n : Nat)  (m : Nat) : Option Pos → Nat → Cap → Option Pos → Nat → Cap → Option Pos → Option Pos → Int → AS → Option (AV × AS) := Nat.rec (motive := fun _ => Option Pos → Nat → Cap → Option Pos → Nat → Cap → Option Pos → Option Pos → Int → AS → Option (AV × AS)) (fun _ _ _ _ _ _ _ _ _ _ => none) (fun _ ih w2a w2l w2c w7a w7l w7c w8 w10 w12 S => b8_l1_1_1_1_1_1_0_1_0 call n ih (J8_j1_1_1_1_1_1_1 call n ) w2a w2l w2c w7a w7l w7c w8 w10 w12 S) m
theorem J8_l1_1_1_1_1_1_0_1_0_succ (call : CallA) (n : Nat)  (m : Nat) (w2a : Option Pos) (w2l : Nat) (w2c : Cap) (w7a : Option Pos) (w7l : Nat) (w7c : Cap) (w8 : Option Pos) (w10 : Option Pos) (w12 : Int) (S : AS) : J8_l1_1_1_1_1_1_0_1_0 call n  (m + 1) w2a w2l w2c w7a w7l w7c w8 w10 w12 S = b8_l1_1_1_1_1_1_0_1_0 call n (J8_l1_1_1_1_1_1_0_1_0 call n  m) (J8_j1_1_1_1_1_1_1 call n ) w2a w2l w2c w7a w7l w7c w8 w10 w12 S := rfl
theorem h8_l1_1_1_1_1_1_0_1_0 (call : CallA) (n : Nat)  (m : Nat) : r8_l1_1_1_1_1_1_0_1_0 call n  m = J8_l1_1_1_1_1_1_0_1_0 call n  m := by
  induction m with
  | zero => rfl
  | succ m ih =>
    funext w2a w2l w2c w7a w7l w7c w8 w10 w12 S
    rw [J8_l1_1_1_1_1_1_0_1_0_succ, a8_l1_1_1_1_1_1_0_1_0, h8_j1_1_1_1_1_1_1 call n , ih]
def J8 (call : CallA) (n : Nat) (x0 : Int) (x1a : Option Pos) (x1l : Nat) (x1c : Cap) (x2a : Option Pos) (x2l : Nat) (x2c : Cap) (S : AS) : Option (AV × AS) := b8_entry call n (J8_l1_1_1_1_1_1_0_1_0 call n  n) x0 x1a x1l x1c x2a x2l x2c S
theorem run8 (o : Orc) (n : Nat) (args : List AV) (S : AS) (ho : o 8 args = none) : evF E o (n + 1) (.fn 8) args S = evC E (evF E o n) n 8 (E.at 8 []) 0 (enumT 0 args) S (retK E (E.fn 8)) := by
  rw [evF, ho]; kernel_rfl
theorem J8_eq (call : CallA) (n : Nat) (x0 : Int) (x1a : Option Pos) (x1l : Nat) (x1c : Cap) (x2a : Option Pos) (x2l : Nat) (x2c : Cap) (S : AS) : evC E call n 8 (E.at 8 []) 0 (enumT 0 [(.int .i64 x0), (.sl x1a x1l x1c), (.sl x2a x2l x2c)]) S (retK E (E.fn 8)) = J8 call n x0 x1a x1l x1c x2a x2l x2c S := by
  rw [J8, a8_entry, h8_l1_1_1_1_1_1_0_1_0 call n  n]
theorem F8 {o : Orc} (n : Nat) (x0 : Int) (x1a : Option Pos) (x1l : Nat) (x1c : Cap) (x2a : Option Pos) (x2l : Nat) (x2c : Cap) (S : AS) (ho : ∀ args, o 8 args = none) : evF E o (n + 1) (.fn 8) [(.int .i64 x0), (.sl x1a x1l x1c), (.sl x2a x2l x2c)] S = J8 (evF E o n) n x0 x1a x1l x1c x2a x2l x2c S := (run8 o n [(.int .i64 x0), (.sl x1a x1l x1c), (.sl x2a x2l x2c)] S (ho _)).trans (J8_eq _ _ x0 x1a x1l x1c x2a x2l x2c S)
def b9_entry (call : CallA) (n : Nat)   (S : AS) : Option (AV × AS) :=
 callT call 13 [(.ptr none), (.int .i64 0)] S fun v2 S1 =>
 atI .i64 v2 0 fun v3 =>
 atI .i64 v2 1 fun v4 =>
 callT call 20 [(.ptr none), (.int .i64 0)] S1 fun v6 S5 =>
 atI .i64 v6 0 fun v7 =>
 atI .i64 v6 1 fun v8 =>
 callT call 18 [(.ptr none)] S5 fun v10 S9 =>
 atL v10 0 fun v11a v11l v11c =>
 atL v10 1 fun v12a v12l v12c =>
 callT call 25 [(.ptr none)] S9 fun v14 S13 =>
 callT call 33 [(.ptr none)] S13 fun v16 S15 =>
 callL call 34 [(.ptr none)] S15 fun v18a v18l v18c S17 =>
 cond (((v18l : Nat) : Int) == 0) (
 callI .i64 call 29 [(.ptr none)] S17 fun v20 S19 =>
 cond (v20 == 0) (
 callB call 12 [] S19 fun v22 S21 =>
 cond v22 (
 cond (v3 == 0) (
 callI .i64 call 11 [(.int .i64 v4)] S21 fun v24 S23 =>
 cond (v24 == 7) (
 cond (v7 == 0) (
 callI .i64 call 11 [(.int .i64 v8)] S23 fun v26 S25 =>
 cond (v26 == 7) (
 callI .i64 call 21 [(.ptr none), (.int .i64 0)] S25 fun v28 S27 =>
 callI .i64 call 11 [(.int .i64 v28)] S27 fun v30 S29 =>
 cond (v30 == 7) (
 callI .i64 call 35 [(.ptr none), (.int .i64 0)] S29 fun v32 S31 =>
 callI .i64 call 11 [(.int .i64 v32)] S31 fun v34 S33 =>
 cond (v34 == 7) (
 callI .i64 call 22 [(.ptr none), (.int .i64 0)] S33 fun v36 S35 =>
 callI .i64 call 11 [(.int .i64 v36)] S35 fun v38 S37 =>
 cond (v38 == 7) (
 callI .i64 call 36 [(.ptr none), (.int .i64 0)] S37 fun v40 S39 =>
 callI .i64 call 11 [(.int .i64 v40)] S39 fun v42 S41 =>
 cond (v42 == 7) (
 callL call 26 [(.ptr none)] S41 fun v44a v44l v44c S43 =>
 callL call 27 [(.ptr none)] S43 fun v46a v46l v46c S45 =>
 callL call 16 [(.ptr none)] S45 fun v48a v48l v48c S47 =>
 callL call 28 [(.ptr none)] S47 fun v50a v50l v50c S49 =>
 cond ((IntKind.wrap .i64 ((IntKind.wrap .i64 ((IntKind.wrap .i64 ((IntKind.wrap .i64 ((IntKind.wrap .i64 (((v11l : Nat) : Int) + ((v12l : Nat) : Int))) + ((v44l : Nat) : Int))) + ((v46l : Nat) : Int))) + ((v48l : Nat) : Int))) + ((v50l : Nat) : Int))) == 0) (
 callI .i64 call 19 [(.ptr none), (.int .i64 0)] S49 fun v52 S51 =>
 cond (v52 == (-1)) (
 callI .i64 call 14 [(.ptr none)] S51 fun v54 S53 =>
 cond (v54 == 0) (
 callI .i64 call 15 [(.ptr none)] S53 fun v56 S55 =>
 cond (v56 == 0) (
 callI .i64 call 23 [(.ptr none)] S55 fun v58 S57 =>
 cond (v58 == 0) (
 callP call 37 [(.ptr none)] S57 fun v60 S59 =>
 some ((.bool v60.isNone), S59)) (
 some ((.bool false), S57))) (
 some ((.bool false), S55))) (
 some ((.bool false), S53))) (
 some ((.bool false), S51))) (
 some ((.bool false), S49))) (
 some ((.bool false), S41))) (
 some ((.bool false), S37))) (
 some ((.bool false), S33))) (
 some ((.bool false), S29))) (
 some ((.bool false), S25))) (
 some ((.bool false), S23))) (
 some ((.bool false), S23))) (
 some ((.bool false), S21))) (
 some ((.bool false), S21))) (
 some ((.bool false), S19))) (
 some ((.bool false), S17))

theorem a9_entry (call : CallA) (n : Nat)  (S : AS) : evC E call n 9 (E.at 9 []) 0 (enumT 0 []) S (retK E (E.fn 9)) = b9_entry call n   S := by kernel_rfl
def J9 (call : CallA) (n : Nat)  (S : AS) : Option (AV × AS) := b9_entry call n   S
theorem run9 (o : Orc) (n : Nat) (args : List AV) (S : AS) (ho : o 9 args = none) : evF E o (n + 1) (.fn 9) args S = evC E (evF E o n) n 9 (E.at 9 []) 0 (enumT 0 args) S (retK E (E.fn 9)) := by
  rw [evF, ho]; kernel_rfl
theorem J9_eq (call : CallA) (n : Nat)  (S : AS) : evC E call n 9 (E.at 9 []) 0 (enumT 0 []) S (retK E (E.fn 9)) = J9 call n  S := by
  rw [J9, a9_entry]
theorem F9 {o : Orc} (n : Nat)  (S : AS) (ho : ∀ args, o 9 args = none) : evF E o (n + 1) (.fn 9) [] S = J9 (evF E o n) n  S := (run9 o n [] S (ho _)).trans (J9_eq _ _  S)
def b10_entry (call : CallA) (n : Nat)  (x0 : Int) (S : AS) : Option (AV × AS) :=
 cond (decide (x0 < 1)) (
 some (.tup [(.ptr none), (.int .i64 2)], S)) (
 cond (decide (x0 > 65536)) (
 some (.tup [(.ptr none), (.int .i64 2)], S)) (
 mkSl 1 x0 x0 fun l3 c4 =>
 newA S (.cells (zeros c4 [(.int .u8 0)])) fun b1 S2 =>
 newA S2 (.cells [(.sl (some (.rw b1, 0)) l3 (.ex c4)), (.int .i64 0), (.int .i64 0), (.sl none 0 (.ex 0)), (.sl none 0 (.ex 0)), (.int .i64 x0)]) fun b5 S6 =>
 some (.tup [(.ptr (some ((.rw b5), 0))), (.int .i64 0)], S6)))

theorem a10_entry (call : CallA) (n : Nat) (x0 : Int) (S : AS) : evC E call n 10 (E.at 10 []) 0 (enumT 0 [(.int .i64 x0)]) S (retK E (E.fn 10)) = b10_entry call n  x0 S := by kernel_rfl
def J10 (call : CallA) (n : Nat) (x0 : Int) (S : AS) : Option (AV × AS) := b10_entry call n  x0 S
theorem run10 (o : Orc) (n : Nat) (args : List AV) (S : AS) (ho : o 10 args = none) : evF E o (n + 1) (.fn 10) args S = evC E (evF E o n) n 10 (E.at 10 []) 0 (enumT 0 args) S (retK E (E.fn 10)) := by
  rw [evF, ho]; kernel_rfl
theorem J10_eq (call : CallA) (n : Nat) (x0 : Int) (S : AS) : evC E call n 10 (E.at 10 []) 0 (enumT 0 [(.int .i64 x0)]) S (retK E (E.fn 10)) = J10 call n x0 S := by
  rw [J10, a10_entry]
theorem F10 {o : Orc} (n : Nat) (x0 : Int) (S : AS) (ho : ∀ args, o 10 args = none) : evF E o (n + 1) (.fn 10) [(.int .i64 x0)] S = J10 (evF E o n) n x0 S := (run10 o n [(.int .i64 x0)] S (ho _)).trans (J10_eq _ _ x0 S)
def b11_entry (call : CallA) (n : Nat)  (x0 : Int) (S : AS) : Option (AV × AS) :=
 some ((.int .i64 x0), S)

theorem a11_entry (call : CallA) (n : Nat) (x0 : Int) (S : AS) : evC E call n 11 (E.at 11 []) 0 (enumT 0 [(.int .i64 x0)]) S (retK E (E.fn 11)) = b11_entry call n  x0 S := by kernel_rfl
def J11 (call : CallA) (n : Nat) (x0 : Int) (S : AS) : Option (AV × AS) := b11_entry call n  x0 S
theorem run11 (o : Orc) (n : Nat) (args : List AV) (S : AS) (ho : o 11 args = none) : evF E o (n + 1) (.fn 11) args S = evC E (evF E o n) n 11 (E.at 11 []) 0 (enumT 0 args) S (retK E (E.fn 11)) := by
  rw [evF, ho]; kernel_rfl
theorem J11_eq (call : CallA) (n : Nat) (x0 : Int) (S : AS) : evC E call n 11 (E.at 11 []) 0 (enumT 0 [(.int .i64 x0)]) S (retK E (E.fn 11)) = J11 call n x0 S := by
  rw [J11, a11_entry]
theorem F11 {o : Orc} (n : Nat) (x0 : Int) (S : AS) (ho : ∀ args, o 11 args = none) : evF E o (n + 1) (.fn 11) [(.int .i64 x0)] S = J11 (evF E o n) n x0 S := (run11 o n [(.int .i64 x0)] S (ho _)).trans (J11_eq _ _ x0 S)
def b12_entry (call : CallA) (n : Nat)   (S : AS) : Option (AV × AS) :=
 callT call 10 [(.int .i64 4)] S fun v2 S1 =>
 atP v2 0 fun v3 =>
 atI .i64 v2 1 fun v4 =>
 callI .i64 call 11 [(.int .i64 v4)] S1 fun v6 S5 =>
 cond (v6 != 0) (
 some ((.bool false), S5)) (
 cond v3.isNone (
 some ((.bool false), S5)) (
 callT call 13 [(.ptr v3), (.int .i64 2)] S5 fun v8 S7 =>
 atI .i64 v8 0 fun v9 =>
 atI .i64 v8 1 fun v10 =>
 callT call 13 [(.ptr v3), (.int .i64 2)] S7 fun v12 S11 =>
 atI .i64 v12 0 fun v13 =>
 atI .i64 v12 1 fun v14 =>
 callT call 13 [(.ptr v3), (.int .i64 2)] S11 fun v16 S15 =>
 atI .i64 v16 0 fun v17 =>
 atI .i64 v16 1 fun v18 =>
 callI .i64 call 21 [(.ptr v3), (.int .i64 3)] S15 fun v20 S19 =>
 callT call 18 [(.ptr v3)] S19 fun v22 S21 =>
 atL v22 0 fun v23a v23l v23c =>
 atL v22 1 fun v24a v24l v24c =>
 callI .i64 call 21 [(.ptr v3), (.int .i64 2)] S21 fun v26 S25 =>
 callT call 13 [(.ptr v3), (.int .i64 2)] S25 fun v28 S27 =>
 atI .i64 v28 0 fun v29 =>
 atI .i64 v28 1 fun v30 =>
 callI .i64 call 22 [(.ptr v3), (.int .i64 9)] S27 fun v32 S31 =>
 newA S31 (.cells [(.int .u8 8)]) fun b33 S34 =>
 callT call 24 [(.int .i64 3), (.sl (some (.rw b33, 0)) 1 (.ex 1))] S34 fun v36 S35 =>
 atP v36 0 fun v37 =>
 atI .i64 v36 1 fun v38 =>
 cond (v9 == 2) (
 callI .i64 call 11 [(.int .i64 v10)] S35 fun v40 S39 =>
 cond (v40 == 0) (
 cond (v13 == 3) (
 cond (v17 == 0) (
 callI .i64 call 11 [(.int .i64 v20)] S39 fun v42 S41 =>
 cond (v42 == 0) (
 newA S41 (.cells [(.int .i64 0), (.int .i64 2)]) fun b43 S44 =>
 callB call 38 [(.sl v23a v23l v23c), (.sl (some (.rw b43, 0)) 2 (.ex 2))] S44 fun v46 S45 =>
 cond v46 (
 cond (((v24l : Nat) : Int) == 0) (
 callI .i64 call 11 [(.int .i64 v26)] S45 fun v48 S47 =>
 cond (v48 == 0) (
 cond (v29 == 3) (
 callI .i64 call 19 [(.ptr v3), (.int .i64 2)] S47 fun v50 S49 =>
 cond (v50 == 3) (
 callI .i64 call 11 [(.int .i64 v32)] S49 fun v52 S51 =>
 cond (v52 == 100) (
 callI .i64 call 11 [(.int .i64 v38)] S51 fun v54 S53 =>
 cond (v54 == 102) (
 callL call 16 [(.ptr v3)] S53 fun v56a v56l v56c S55 =>
 bytesStr S55 v56a v56l fun s57 =>
 cond (s57 == ([5])) (
 callI .i64 call 15 [(.ptr v3)] S55 fun v59 S58 =>
 some ((.bool (v59 == 1)), S58)) (
 some ((.bool false), S55))) (
 some ((.bool false), S53))) (
 some ((.bool false), S51))) (
 some ((.bool false), S49))) (
 some ((.bool false), S47))) (
 some ((.bool false), S47))) (
 some ((.bool false), S45))) (
 some ((.bool false), S45))) (
 some ((.bool false), S41))) (
 some ((.bool false), S39))) (
 some ((.bool false), S39))) (
 some ((.bool false), S39))) (
 some ((.bool false), S35))))

theorem a12_entry (call : CallA) (n : Nat)  (S : AS) : evC E call n 12 (E.at 12 []) 0 (enumT 0 []) S (retK E (E.fn 12)) = b12_entry call n   S := by kernel_rfl
def J12 (call : CallA) (n : Nat)  (S : AS) : Option (AV × AS) := b12_entry call n   S
theorem run12 (o : Orc) (n : Nat) (args : List AV) (S : AS) (ho : o 12 args = none) : evF E o (n + 1) (.fn 12) args S = evC E (evF E o n) n 12 (E.at 12 []) 0 (enumT 0 args) S (retK E (E.fn 12)) := by
  rw [evF, ho]; kernel_rfl
theorem J12_eq (call : CallA) (n : Nat)  (S : AS) : evC E call n 12 (E.at 12 []) 0 (enumT 0 []) S (retK E (E.fn 12)) = J12 call n  S := by
  rw [J12, a12_entry]
theorem F12 {o : Orc} (n : Nat)  (S : AS) (ho : ∀ args, o 12 args = none) : evF E o (n + 1) (.fn 12) [] S = J12 (evF E o n) n  S := (run12 o n [] S (ho _)).trans (J12_eq _ _  S)
def b13_entry (call : CallA) (n : Nat)  (x0 : Option Pos) (x1 : Int) (S : AS) : Option (AV × AS) :=
 cond x0.isNone (
 some (.tup [(.int .i64 0), (.int .i64 7)], S)) (
 callB call 39 [(.ptr x0), (.int .i64 x1)] S fun v2 S1 =>
 cond (!v2) (
 some (.tup [(.int .i64 0), (.int .i64 2)], S1)) (
 gO x0 fun p3 =>
 ldI .i64 S1 p3.1 (p3.2 + 5) fun v4 =>
 gO x0 fun p5 =>
 ldI .i64 S1 p5.1 (p5.2 + 1) fun v6 =>
 cond (decide (v4 ≤ v6)) (
 some (.tup [(.int .i64 0), (.int .i64 100)], S1)) (
 callI .i64 call 40 [(.ptr x0), (.int .i64 x1)] S1 fun v8 S7 =>
 some (.tup [(.int .i64 v8), (.int .i64 0)], S7))))

theorem a13_entry (call : CallA) (n : Nat) (x0 : Option Pos) (x1 : Int) (S : AS) : evC E call n 13 (E.at 13 []) 0 (enumT 0 [(.ptr x0), (.int .i64 x1)]) S (retK E (E.fn 13)) = b13_entry call n  x0 x1 S := by kernel_rfl
def J13 (call : CallA) (n : Nat) (x0 : Option Pos) (x1 : Int) (S : AS) : Option (AV × AS) := b13_entry call n  x0 x1 S
theorem run13 (o : Orc) (n : Nat) (args : List AV) (S : AS) (ho : o 13 args = none) : evF E o (n + 1) (.fn 13) args S = evC E (evF E o n) n 13 (E.at 13 []) 0 (enumT 0 args) S (retK E (E.fn 13)) := by
  rw [evF, ho]; kernel_rfl
theorem J13_eq (call : CallA) (n : Nat) (x0 : Option Pos) (x1 : Int) (S : AS) : evC E call n 13 (E.at 13 []) 0 (enumT 0 [(.ptr x0), (.int .i64 x1)]) S (retK E (E.fn 13)) = J13 call n x0 x1 S := by
  rw [J13, a13_entry]
theorem F13 {o : Orc} (n : Nat) (x0 : Option Pos) (x1 : Int) (S : AS) (ho : ∀ args, o 13 args = none) : evF E o (n + 1) (.fn 13) [(.ptr x0), (.int .i64 x1)] S = J13 (evF E o n) n x0 x1 S := (run13 o n [(.ptr x0), (.int .i64 x1)] S (ho _)).trans (J13_eq _ _ x0 x1 S)
def b14_entry (call : CallA) (n : Nat)  (x0 : Option Pos) (S : AS) : Option (AV × AS) :=
 cond x0.isNone (
 some ((.int .i64 0), S)) (
 gO x0 fun p1 =>
 ldL S p1.1 p1.2 fun v2a v2l v2c =>
 some ((.int .i64 ((v2l : Nat) : Int)), S))

theorem a14_entry (call : CallA) (n : Nat) (x0 : Option Pos) (S : AS) : evC E call n 14 (E.at 14 []) 0 (enumT 0 [(.ptr x0)]) S (retK E (E.fn 14)) = b14_entry call n  x0 S := by kernel_rfl
def J14 (call : CallA) (n : Nat) (x0 : Option Pos) (S : AS) : Option (AV × AS) := b14_entry call n  x0 S
theorem run14 (o : Orc) (n : Nat) (args : List AV) (S : AS) (ho : o 14 args = none) : evF E o (n + 1) (.fn 14) args S = evC E (evF E o n) n 14 (E.at 14 []) 0 (enumT 0 args) S (retK E (E.fn 14)) := by
  rw [evF, ho]; kernel_rfl
theorem J14_eq (call : CallA) (n : Nat) (x0 : Option Pos) (S : AS) : evC E call n 14 (E.at 14 []) 0 (enumT 0 [(.ptr x0)]) S (retK E (E.fn 14)) = J14 call n x0 S := by
  rw [J14, a14_entry]
theorem F14 {o : Orc} (n : Nat) (x0 : Option Pos) (S : AS) (ho : ∀ args, o 14 args = none) : evF E o (n + 1) (.fn 14) [(.ptr x0)] S = J14 (evF E o n) n x0 S := (run14 o n [(.ptr x0)] S (ho _)).trans (J14_eq _ _ x0 S)
def b15_entry (call : CallA) (n : Nat)  (x0 : Option Pos) (S : AS) : Option (AV × AS) :=
 cond x0.isNone (
 some ((.int .i64 0), S)) (
 gO x0 fun p1 =>
 ldI .i64 S p1.1 (p1.2 + 5) fun v2 =>
 some ((.int .i64 v2), S))

theorem a15_entry (call : CallA) (n : Nat) (x0 : Option Pos) (S : AS) : evC E call n 15 (E.at 15 []) 0 (enumT 0 [(.ptr x0)]) S (retK E (E.fn 15)) = b15_entry call n  x0 S := by kernel_rfl
def J15 (call : CallA) (n : Nat) (x0 : Option Pos) (S : AS) : Option (AV × AS) := b15_entry call n  x0 S
theorem run15 (o : Orc) (n : Nat) (args : List AV) (S : AS) (ho : o 15 args = none) : evF E o (n + 1) (.fn 15) args S = evC E (evF E o n) n 15 (E.at 15 []) 0 (enumT 0 args) S (retK E (E.fn 15)) := by
  rw [evF, ho]; kernel_rfl
theorem J15_eq (call : CallA) (n : Nat) (x0 : Option Pos) (S : AS) : evC E call n 15 (E.at 15 []) 0 (enumT 0 [(.ptr x0)]) S (retK E (E.fn 15)) = J15 call n x0 S := by
  rw [J15, a15_entry]
theorem F15 {o : Orc} (n : Nat) (x0 : Option Pos) (S : AS) (ho : ∀ args, o 15 args = none) : evF E o (n + 1) (.fn 15) [(.ptr x0)] S = J15 (evF E o n) n x0 S := (run15 o n [(.ptr x0)] S (ho _)).trans (J15_eq _ _ x0 S)
def b16_l1_1_1_0_1_0 (call : CallA) (n : Nat) (j1_1_1_0_1_0_0_1_1_1 : Option Pos → Nat → Cap → Option Pos → Nat → Cap → Int → Int → AS → Option (AV × AS)) (w3a : Option Pos) (w3l : Nat) (w3c : Cap) (w19a : Option Pos) (w19l : Nat) (w19c : Cap) (w20 : Int) (w21 : Int) (S : AS) : Option (AV × AS) :=
 cond (decide (w21 < w20)) (
 ixSl 1 w19a w19l w21 fun p9 =>
 ldI .u8 S p9.1 p9.2 fun v10 =>
 cond (v10 == 1) (
 ixSl 1 w3a w3l (IntKind.wrap .i64 (Int.tdiv w21 8)) fun p11 =>
 ldI .u8 S p11.1 p11.2 fun v12 =>
 nneg (Int.tmod w21 8) <|
 ixSl 1 w3a w3l (IntKind.wrap .i64 (Int.tdiv w21 8)) fun p13 =>
 S.stn p13.1 p13.2 [(.int .u8 (orI .u8 v12 (shlI .u8 1 (Int.tmod w21 8))))] fun S14 =>
 j1_1_1_0_1_0_0_1_1_1 w3a w3l w3c w19a w19l w19c w20 w21 S14) (
 cond (v10 == 3) (
 ixSl 1 w3a w3l (IntKind.wrap .i64 (Int.tdiv w21 8)) fun p15 =>
 ldI .u8 S p15.1 p15.2 fun v16 =>
 nneg (Int.tmod w21 8) <|
 ixSl 1 w3a w3l (IntKind.wrap .i64 (Int.tdiv w21 8)) fun p17 =>
 S.stn p17.1 p17.2 [(.int .u8 (orI .u8 v16 (shlI .u8 1 (Int.tmod w21 8))))] fun S18 =>
 j1_1_1_0_1_0_0_1_1_1 w3a w3l w3c w19a w19l w19c w20 w21 S18) (
 j1_1_1_0_1_0_0_1_1_1 w3a w3l w3c w19a w19l w19c w20 w21 S))) (
 some ((.sl w3a w3l w3c), S))

def b16_j1_1_1_0_1_0_0_1_1_1 (call : CallA) (n : Nat) (l1_1_1_0_1_0 : Option Pos → Nat → Cap → Option Pos → Nat → Cap → Int → Int → AS → Option (AV × AS)) (w3a : Option Pos) (w3l : Nat) (w3c : Cap) (w19a : Option Pos) (w19l : Nat) (w19c : Cap) (w20 : Int) (w21 : Int) (S : AS) : Option (AV × AS) :=
 l1_1_1_0_1_0 w3a w3l w3c w19a w19l w19c w20 (IntKind.wrap .i64 (w21 + 1)) S

def b16_entry (call : CallA) (n : Nat) (l1_1_1_0_1_0 : Option Pos → Nat → Cap → Option Pos → Nat → Cap → Int → Int → AS → Option (AV × AS)) (x0 : Option Pos) (S : AS) : Option (AV × AS) :=
 cond x0.isNone (
 some ((.sl none 0 (.ex 0)), S)) (
 gO x0 fun p1 =>
 ldL S p1.1 p1.2 fun v2a v2l v2c =>
 mkSl 1 (IntKind.wrap .i64 (Int.tdiv (IntKind.wrap .i64 (((v2l : Nat) : Int) + 7)) 8)) (IntKind.wrap .i64 (Int.tdiv (IntKind.wrap .i64 (((v2l : Nat) : Int) + 7)) 8)) fun l5 c6 =>
 newA S (.cells (zeros c6 [(.int .u8 0)])) fun b3 S4 =>
 gO x0 fun p7 =>
 ldL S4 p7.1 p7.2 fun v8a v8l v8c =>
 l1_1_1_0_1_0 (some (.rw b3, 0)) l5 (.ex c6) v8a v8l v8c ((v8l : Nat) : Int) 0 S4)

def r16_l1_1_1_0_1_0 (call : CallA) (n : Nat)  (m : Nat) (w3a : Option Pos) (w3l : Nat) (w3c : Cap) (w19a : Option Pos) (w19l : Nat) (w19c : Cap) (w20 : Int) (w21 : Int) (S : AS) : Option (AV × AS) := loopN (evC E call n 16 (E.at 16 [1, 1, 1, 0, 1, 0, 0]) 0) [3, 19, 20, 21] m [(3, (.sl w3a w3l w3c)), (19, (.sl w19a w19l w19c)), (20, (.int .i64 w20)), (21, (.int .i64 w21))] S (kBlk 0 (kSeq E call n 16 (E.at 16 [1, 1, 1, 1]) 0 (retK E (E.fn 16))))
def r16_j1_1_1_0_1_0_0_1_1_1 (call : CallA) (n : Nat) (m1_1_1_0_1_0 : Nat) (w3a : Option Pos) (w3l : Nat) (w3c : Cap) (w19a : Option Pos) (w19l : Nat) (w19c : Cap) (w20 : Int) (w21 : Int) (S : AS) : Option (AV × AS) := evC E call n 16 (E.at 16 [1, 1, 1, 0, 1, 0, 0, 1, 1, 1]) 0 [(3, (.sl w3a w3l w3c)), (19, (.sl w19a w19l w19c)), (20, (.int .i64 w20)), (21, (.int .i64 w21))] S (kLp (evC E call n 16 (E.at 16 [1, 1, 1, 0, 1, 0, 0]) 0) [3, 19, 20, 21] m1_1_1_0_1_0 (kBlk 0 (kSeq E call n 16 (E.at 16 [1, 1, 1, 1]) 0 (retK E (E.fn 16)))))
theorem a16_l1_1_1_0_1_0 (call : CallA) (n : Nat)  (m : Nat) (w3a : Option Pos) (w3l : Nat) (w3c : Cap) (w19a : Option Pos) (w19l : Nat) (w19c : Cap) (w20 : Int) (w21 : Int) (S : AS) : r16_l1_1_1_0_1_0 call n  (m + 1) w3a w3l w3c w19a w19l w19c w20 w21 S = b16_l1_1_1_0_1_0 call n (r16_j1_1_1_0_1_0_0_1_1_1 call n m) w3a w3l w3c w19a w19l w19c w20 w21 S := by kernel_rfl
theorem a16_j1_1_1_0_1_0_0_1_1_1 (call : CallA) (n : Nat) (m1_1_1_0_1_0 : Nat) (w3a : Option Pos) (w3l : Nat) (w3c : Cap) (w19a : Option Pos) (w19l : Nat) (w19c : Cap) (w20 : Int) (w21 : Int) (S : AS) : r16_j1_1_1_0_1_0_0_1_1_1 call n m1_1_1_0_1_0 w3a w3l w3c w19a w19l w19c w20 w21 S = b16_j1_1_1_0_1_0_0_1_1_1 call n (r16_l1_1_1_0_1_0 call n  m1_1_1_0_1_0) w3a w3l w3c w19a w19l w19c w20 w21 S := by kernel_rfl
theorem a16_entry (call : CallA) (n : Nat) (x0 : Option Pos) (S : AS) : evC E call n 16 (E.at 16 []) 0 (enumT 0 [(.ptr x0)]) S (retK E (E.fn 16)) = b16_entry call n (r16_l1_1_1_0_1_0 call n  n) x0 S := by kernel_rfl
def J16_j1_1_1_0_1_0_0_1_1_1 (call : CallA) (n : Nat) (n1_1_1_0_1_0 : Option Pos → Nat → Cap → Option Pos → Nat → Cap → Int → Int → AS → Option (AV × AS)) (w3a : Option Pos) (w3l : Nat) (w3c : Cap) (w19a : Option Pos) (w19l : Nat) (w19c : Cap) (w20 : Int) (w21 : Int) (S : AS) : Option (AV × AS) := b16_j1_1_1_0_1_0_0_1_1_1 call n n1_1_1_0_1_0 w3a w3l w3c w19a w19l w19c w20 w21 S
theorem h16_j1_1_1_0_1_0_0_1_1_1 (call : CallA) (n : Nat) (m1_1_1_0_1_0 : Nat) : r16_j1_1_1_0_1_0_0_1_1_1 call n m1_1_1_0_1_0 = J16_j1_1_1_0_1_0_0_1_1_1 call n (r16_l1_1_1_0_1_0 call n  m1_1_1_0_1_0) := by
  funext w3a w3l w3c w19a w19l w19c w20 w21 S
  rw [J16_j1_1_1_0_1_0_0_1_1_1, a16_j1_1_1_0_1_0_0_1_1_1]
def J16_l1_1_1_0_1_0 (call : CallA) (n : Nat)  (m : Nat) : Option Pos → Nat → Cap → Option Pos → Nat → Cap → Int → Int → AS → Option (AV × AS) := Nat.rec (motive := fun _ => Option Pos → Nat → Cap → Option Pos → Nat → Cap → Int → Int → AS → Option (AV × AS)) (fun _ _ _ _ _ _ _ _ _ => none) (fun _ ih w3a w3l w3c w19a w19l w19c w20 w21 S => b16_l1_1_1_0_1_0 call n (J16_j1_1_1_0_1_0_0_1_1_1 call n ih) w3a w3l w3c w19a w19l w19c w20 w21 S) m
theorem J16_l1_1_1_0_1_0_succ (call : CallA) (n : Nat)  (m : Nat) (w3a : Option Pos) (w3l : Nat) (w3c : Cap) (w19a : Option Pos) (w19l : Nat) (w19c : Cap) (w20 : Int) (w21 : Int) (S : AS) : J16_l1_1_1_0_1_0 call n  (m + 1) w3a w3l w3c w19a w19l w19c w20 w21 S = b16_l1_1_1_0_1_0 call n (J16_j1_1_1_0_1_0_0_1_1_1 call n (J16_l1_1_1_0_1_0 call n  m)) w3a w3l w3c w19a w19l w19c w20 w21 S := rfl
theorem h16_l1_1_1_0_1_0 (call : CallA) (n : Nat)  (m : Nat) : r16_l1_1_1_0_1_0 call n  m = J16_l1_1_1_0_1_0 call n  m := by
  induction m with
  | zero => rfl
  | succ m ih =>
    funext w3a w3l w3c w19a w19l w19c w20 w21 S
    rw [J16_l1_1_1_0_1_0_succ, a16_l1_1_1_0_1_0, h16_j1_1_1_0_1_0_0_1_1_1 call n m, ih]
def J16 (call : CallA) (n : Nat) (x0 : Option Pos) (S : AS) : Option (AV × AS) := b16_entry call n (J16_l1_1_1_0_1_0 call n  n) x0 S
theorem run16 (o : Orc) (n : Nat) (args : List AV) (S : AS) (ho : o 16 args = none) : evF E o (n + 1) (.fn 16) args S = evC E (evF E o n) n 16 (E.at 16 []) 0 (enumT 0 args) S (retK E (E.fn 16)) := by
  rw [evF, ho]; kernel_rfl
theorem J16_eq (call : CallA) (n : Nat) (x0 : Option Pos) (S : AS) : evC E call n 16 (E.at 16 []) 0 (enumT 0 [(.ptr x0)]) S (retK E (E.fn 16)) = J16 call n x0 S := by
  rw [J16, a16_entry, h16_l1_1_1_0_1_0 call n  n]
theorem F16 {o : Orc} (n : Nat) (x0 : Option Pos) (S : AS) (ho : ∀ args, o 16 args = none) : evF E o (n + 1) (.fn 16) [(.ptr x0)] S = J16 (evF E o n) n x0 S := (run16 o n [(.ptr x0)] S (ho _)).trans (J16_eq _ _ x0 S)
def b17_l1_1_1_1_0_1_0 (call : CallA) (n : Nat) (j1_1_1_1_0_1_0_0_1_1 : Option Pos → Nat → Cap → Option Pos → Option Pos → Int → AS → Option (AV × AS)) (w1a : Option Pos) (w1l : Nat) (w1c : Cap) (w5 : Option Pos) (w7 : Option Pos) (w9 : Int) (S : AS) : Option (AV × AS) :=
 cond (decide (w9 < ((w1l : Nat) : Int))) (
 ixSl 2 w1a w1l w9 fun p11 =>
 ldI .i64 S p11.1 p11.2 fun v12 =>
 cond (v12 != 9) (
 ixSl 2 w1a w1l w9 fun p13 =>
 S.ldn p13.1 p13.2 2 fun g14 =>
 callT call 31 [(.ptr w5), (.ptr w7), (.agg g14)] S fun v16 S15 =>
 j1_1_1_1_0_1_0_0_1_1 w1a w1l w1c w5 w7 w9 S15) (
 j1_1_1_1_0_1_0_0_1_1 w1a w1l w1c w5 w7 w9 S)) (
 some ((.ptr w5), S))

def b17_j1_1_1_1_0_1_0_0_1_1 (call : CallA) (n : Nat) (l1_1_1_1_0_1_0 : Option Pos → Nat → Cap → Option Pos → Option Pos → Int → AS → Option (AV × AS)) (w1a : Option Pos) (w1l : Nat) (w1c : Cap) (w5 : Option Pos) (w7 : Option Pos) (w9 : Int) (S : AS) : Option (AV × AS) :=
 l1_1_1_1_0_1_0 w1a w1l w1c w5 w7 (IntKind.wrap .i64 (w9 + 1)) S

def b17_entry (call : CallA) (n : Nat) (l1_1_1_1_0_1_0 : Option Pos → Nat → Cap → Option Pos → Option Pos → Int → AS → Option (AV × AS)) (x0 : Int) (x1a : Option Pos) (x1l : Nat) (x1c : Cap) (S : AS) : Option (AV × AS) :=
 callT call 10 [(.int .i64 x0)] S fun v2 S1 =>
 atP v2 0 fun v3 =>
 atI .i64 v2 1 fun v4 =>
 callT call 41 [(.int .i64 x0)] S1 fun v6 S5 =>
 atP v6 0 fun v7 =>
 atI .i64 v6 1 fun v8 =>
 callI .i64 call 11 [(.int .i64 v4)] S5 fun v10 S9 =>
 cond (v10 != 0) (
 some ((.ptr none), S9)) (
 cond (v8 != 0) (
 some ((.ptr none), S9)) (
 cond v3.isNone (
 some ((.ptr none), S9)) (
 l1_1_1_1_0_1_0 x1a x1l x1c v3 v7 0 S9)))

def r17_l1_1_1_1_0_1_0 (call : CallA) (n : Nat)  (m : Nat) (w1a : Option Pos) (w1l : Nat) (w1c : Cap) (w5 : Option Pos) (w7 : Option Pos) (w9 : Int) (S : AS) : Option (AV × AS) := loopN (evC E call n 17 (E.at 17 [1, 1, 1, 1, 0, 1, 0, 0]) 0) [1, 5, 7, 9] m [(1, (.sl w1a w1l w1c)), (5, (.ptr w5)), (7, (.ptr w7)), (9, (.int .i64 w9))] S (kBlk 0 (kSeq E call n 17 (E.at 17 [1, 1, 1, 1, 1]) 0 (retK E (E.fn 17))))
def r17_j1_1_1_1_0_1_0_0_1_1 (call : CallA) (n : Nat) (m1_1_1_1_0_1_0 : Nat) (w1a : Option Pos) (w1l : Nat) (w1c : Cap) (w5 : Option Pos) (w7 : Option Pos) (w9 : Int) (S : AS) : Option (AV × AS) := evC E call n 17 (E.at 17 [1, 1, 1, 1, 0, 1, 0, 0, 1, 1]) 0 [(1, (.sl w1a w1l w1c)), (5, (.ptr w5)), (7, (.ptr w7)), (9, (.int .i64 w9))] S (kLp (evC E call n 17 (E.at 17 [1, 1, 1, 1, 0, 1, 0, 0]) 0) [1, 5, 7, 9] m1_1_1_1_0_1_0 (kBlk 0 (kSeq E call n 17 (E.at 17 [1, 1, 1, 1, 1]) 0 (retK E (E.fn 17)))))
theorem a17_l1_1_1_1_0_1_0 (call : CallA) (n : Nat)  (m : Nat) (w1a : Option Pos) (w1l : Nat) (w1c : Cap) (w5 : Option Pos) (w7 : Option Pos) (w9 : Int) (S : AS) : r17_l1_1_1_1_0_1_0 call n  (m + 1) w1a w1l w1c w5 w7 w9 S = b17_l1_1_1_1_0_1_0 call n (r17_j1_1_1_1_0_1_0_0_1_1 call n m) w1a w1l w1c w5 w7 w9 S := by kernel_rfl
theorem a17_j1_1_1_1_0_1_0_0_1_1 (call : CallA) (n : Nat) (m1_1_1_1_0_1_0 : Nat) (w1a : Option Pos) (w1l : Nat) (w1c : Cap) (w5 : Option Pos) (w7 : Option Pos) (w9 : Int) (S : AS) : r17_j1_1_1_1_0_1_0_0_1_1 call n m1_1_1_1_0_1_0 w1a w1l w1c w5 w7 w9 S = b17_j1_1_1_1_0_1_0_0_1_1 call n (r17_l1_1_1_1_0_1_0 call n  m1_1_1_1_0_1_0) w1a w1l w1c w5 w7 w9 S := by kernel_rfl
theorem a17_entry (call : CallA) (n : Nat) (x0 : Int) (x1a : Option Pos) (x1l : Nat) (x1c : Cap) (S : AS) : evC E call n 17 (E.at 17 []) 0 (enumT 0 [(.int .i64 x0), (.sl x1a x1l x1c)]) S (retK E (E.fn 17)) = b17_entry call n (r17_l1_1_1_1_0_1_0 call n  n) x0 x1a x1l x1c S := by kernel_rfl
def J17_j1_1_1_1_0_1_0_0_1_1 (call : CallA) (n : Nat) (n1_1_1_1_0_1_0 : Option Pos → Nat → Cap → Option Pos → Option Pos → Int → AS → Option (AV × AS)) (w1a : Option Pos) (w1l : Nat) (w1c : Cap) (w5 : Option Pos) (w7 : Option Pos) (w9 : Int) (S : AS) : Option (AV × AS) := b17_j1_1_1_1_0_1_0_0_1_1 call n n1_1_1_1_0_1_0 w1a w1l w1c w5 w7 w9 S
theorem h17_j1_1_1_1_0_1_0_0_1_1 (call : CallA) (n : Nat) (m1_1_1_1_0_1_0 : Nat) : r17_j1_1_1_1_0_1_0_0_1_1 call n m1_1_1_1_0_1_0 = J17_j1_1_1_1_0_1_0_0_1_1 call n (r17_l1_1_1_1_0_1_0 call n  m1_1_1_1_0_1_0) := by
  funext w1a w1l w1c w5 w7 w9 S
  rw [J17_j1_1_1_1_0_1_0_0_1_1, a17_j1_1_1_1_0_1_0_0_1_1]
def J17_l1_1_1_1_0_1_0 (call : CallA) (n : Nat)  (m : Nat) : Option Pos → Nat → Cap → Option Pos → Option Pos → Int → AS → Option (AV × AS) := Nat.rec (motive := fun _ => Option Pos → Nat → Cap → Option Pos → Option Pos → Int → AS → Option (AV × AS)) (fun _ _ _ _ _ _ _ => none) (fun _ ih w1a w1l w1c w5 w7 w9 S => b17_l1_1_1_1_0_1_0 call n (J17_j1_1_1_1_0_1_0_0_1_1 call n ih) w1a w1l w1c w5 w7 w9 S) m
theorem J17_l1_1_1_1_0_1_0_succ (call : CallA) (n : Nat)  (m : Nat) (w1a : Option Pos) (w1l : Nat) (w1c : Cap) (w5 : Option Pos) (w7 : Option Pos) (w9 : Int) (S : AS) : J17_l1_1_1_1_0_1_0 call n  (m + 1) w1a w1l w1c w5 w7 w9 S = b17_l1_1_1_1_0_1_0 call n (J17_j1_1_1_1_0_1_0_0_1_1 call n (J17_l1_1_1_1_0_1_0 call n  m)) w1a w1l w1c w5 w7 w9 S := rfl
theorem h17_l1_1_1_1_0_1_0 (call : CallA) (n : Nat)  (m : Nat) : r17_l1_1_1_1_0_1_0 call n  m = J17_l1_1_1_1_0_1_0 call n  m := by
  induction m with
  | zero => rfl
  | succ m ih =>
    funext w1a w1l w1c w5 w7 w9 S
    rw [J17_l1_1_1_1_0_1_0_succ, a17_l1_1_1_1_0_1_0, h17_j1_1_1_1_0_1_0_0_1_1 call n m, ih]
def J17 (call : CallA) (n : Nat) (x0 : Int) (x1a : Option Pos) (x1l : Nat) (x1c : Cap) (S : AS) : Option (AV × AS) := b17_entry call n (J17_l1_1_1_1_0_1_0 call n  n) x0 x1a x1l x1c S
theorem run17 (o : Orc) (n : Nat) (args : List AV) (S : AS) (ho : o 17 args = none) : evF E o (n + 1) (.fn 17) args S = evC E (evF E o n) n 17 (E.at 17 []) 0 (enumT 0 args) S (retK E (E.fn 17)) := by
  rw [evF, ho]; kernel_rfl
theorem J17_eq (call : CallA) (n : Nat) (x0 : Int) (x1a : Option Pos) (x1l : Nat) (x1c : Cap) (S : AS) : evC E call n 17 (E.at 17 []) 0 (enumT 0 [(.int .i64 x0), (.sl x1a x1l x1c)]) S (retK E (E.fn 17)) = J17 call n x0 x1a x1l x1c S := by
  rw [J17, a17_entry, h17_l1_1_1_1_0_1_0 call n  n]
theorem F17 {o : Orc} (n : Nat) (x0 : Int) (x1a : Option Pos) (x1l : Nat) (x1c : Cap) (S : AS) (ho : ∀ args, o 17 args = none) : evF E o (n + 1) (.fn 17) [(.int .i64 x0), (.sl x1a x1l x1c)] S = J17 (evF E o n) n x0 x1a x1l x1c S := (run17 o n [(.int .i64 x0), (.sl x1a x1l x1c)] S (ho _)).trans (J17_eq _ _ x0 x1a x1l x1c S)
end
end Go.Al
