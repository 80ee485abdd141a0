/- Plain readings of the functions, and that they are what the evaluator does: by program. -/
import Derived.Test.YtcepfilbiahdjaaGrRes
import Derived.Test.YtcepfilbiahdjaaENV
import Derived.KernelRfl
set_option maxRecDepth 100000
set_option linter.unusedVariables false
namespace Go.Jn
open Go.Gr
noncomputable section
def b3_l1_1_1_1_1_1_0_1_0 (call : CallA) (n : Nat)  (l1_1_1_1_1_1_0_1_0 : Int → Option Pos → Nat → Cap → AV → Option Pos → Option Pos → Nat → Cap → Int → Int → AS → Option (AV × AS)) (l1_1_1_1_1_1_0_1_0_0_1_0_0_1_0_1_0_1_1_1_1_1_0_1_1_0_0 : Int → Option Pos → Nat → Cap → Option Pos → Option Pos → Nat → Cap → Int → Int → Option Pos → Int → AS → Option (AV × AS)) (w0 : Int) (w1a : Option Pos) (w1l : Nat) (w1c : Cap) (w4 : AV) (w6 : Option Pos) (w7a : Option Pos) (w7l : Nat) (w7c : Cap) (w8 : Int) (w9 : Int) (S : AS) : Option (AV × AS) :=
 cond (decide (w9 < ((w1l : Nat) : Int))) (
 ixSl 5 w1a w1l w9 fun p17 =>
 S.ldn p17.1 p17.2 5 fun g18 =>
 newA S (.cells [(.int .i64 0), (.sl none 0 (.ex 0)), (.int .u64 0), (.sl none 0 (.ex 0)), (.int .i64 0)]) fun b19 S20 =>
 ifO (g18.length = 5) <|
 S20.stn (.rw b19) 0 g18 fun S21 =>
 ldI .i64 S21 (.rw b19) 0 fun v22 =>
 cond (v22 == 1) (
 ldL S21 (.rw b19) 1 fun v23a v23l v23c =>
 callT call 9 [(.sl v23a v23l v23c)] S21 fun v25 S24 =>
 atL v25 0 fun v26a v26l v26c =>
 atI .i64 v25 1 fun v27 =>
 ldL S24 (.rw b19) 1 fun v28a v28l v28c =>
 callI .i64 call 10 [(.int .i64 ((v28l : Nat) : Int))] S24 fun v30 S29 =>
 ldL S29 (.rw b19) 1 fun v31a v31l v31c =>
 callL call 12 [(.sl v31a v31l v31c)] S29 fun v33a v33l v33c S32 =>
 callT call 11 [(.ptr w6), (.sl v33a v33l v33c)] S32 fun v35 S34 =>
 atI .u64 v35 0 fun v36 =>
 atI .i64 v35 1 fun v37 =>
 cond (v27 == 0) (
 callI .i64 call 13 [(.int .i64 v37)] S34 fun v39 S38 =>
 cond (!((v39 == 0) == (decide (v30 ≤ (IntKind.wrap .i64 ((IntKind.wrap .i64 (w0 - 2)) - w8)))))) (
 some ((.bool false), S38)) (
 callI .i64 call 13 [(.int .i64 v37)] S38 fun v41 S40 =>
 cond (v41 == 0) (
 newA S40 (.cells [(.int .i64 v30)]) fun b42 S43 =>
 appendA 1 8 S43 w7a w7l w7c 1 (firstA S43 1 1 (.sl (some (.rw b42, 0)) 1 (.ex 1))) fun v44a v44l v44c S45 =>
 callI .i64 call 17 [(.ptr w6)] S45 fun v47 S46 =>
 cond (v47 != (IntKind.wrap .i64 ((IntKind.wrap .i64 (w0 - 2)) - (IntKind.wrap .i64 (w8 + v30))))) (
 some ((.bool false), S46)) (
 l1_1_1_1_1_1_0_1_0 w0 w1a w1l w1c w4 w6 v44a v44l v44c (IntKind.wrap .i64 (w8 + v30)) (IntKind.wrap .i64 (w9 + 1)) S46)) (
 callI .i64 call 17 [(.ptr w6)] S40 fun v49 S48 =>
 cond (v49 != (IntKind.wrap .i64 ((IntKind.wrap .i64 (w0 - 2)) - w8))) (
 some ((.bool false), S48)) (
 l1_1_1_1_1_1_0_1_0 w0 w1a w1l w1c w4 w6 w7a w7l w7c w8 (IntKind.wrap .i64 (w9 + 1)) S48)))) (
 callI .i64 call 13 [(.int .i64 v37)] S34 fun v51 S50 =>
 cond (v51 == 0) (
 newA S50 (.cells [(.int .i64 v30)]) fun b52 S53 =>
 appendA 1 8 S53 w7a w7l w7c 1 (firstA S53 1 1 (.sl (some (.rw b52, 0)) 1 (.ex 1))) fun v54a v54l v54c S55 =>
 callI .i64 call 17 [(.ptr w6)] S55 fun v57 S56 =>
 cond (v57 != (IntKind.wrap .i64 ((IntKind.wrap .i64 (w0 - 2)) - (IntKind.wrap .i64 (w8 + v30))))) (
 some ((.bool false), S56)) (
 l1_1_1_1_1_1_0_1_0 w0 w1a w1l w1c w4 w6 v54a v54l v54c (IntKind.wrap .i64 (w8 + v30)) (IntKind.wrap .i64 (w9 + 1)) S56)) (
 callI .i64 call 17 [(.ptr w6)] S50 fun v59 S58 =>
 cond (v59 != (IntKind.wrap .i64 ((IntKind.wrap .i64 (w0 - 2)) - w8))) (
 some ((.bool false), S58)) (
 l1_1_1_1_1_1_0_1_0 w0 w1a w1l w1c w4 w6 w7a w7l w7c w8 (IntKind.wrap .i64 (w9 + 1)) S58)))) (
 cond (v22 == 2) (
 callI .i64 call 14 [(.ptr w6)] S21 fun v61 S60 =>
 callI .i64 call 17 [(.ptr w6)] S60 fun v63 S62 =>
 cond (v63 != (IntKind.wrap .i64 ((IntKind.wrap .i64 (w0 - 2)) - w8))) (
 some ((.bool false), S62)) (
 l1_1_1_1_1_1_0_1_0 w0 w1a w1l w1c w4 w6 w7a w7l w7c w8 (IntKind.wrap .i64 (w9 + 1)) S62)) (
 cond (v22 == 3) (
 callI .u64 call 15 [(.ptr w6)] S21 fun v65 S64 =>
 ldI .u64 S64 (.rw b19) 2 fun v66 =>
 callI .i64 call 16 [(.ptr w6), (.int .u64 v66)] S64 fun v68 S67 =>
 callI .i64 call 13 [(.int .i64 v68)] S67 fun v70 S69 =>
 cond (v70 == 0) (
 l1_1_1_1_1_1_0_1_0_0_1_0_0_1_0_1_0_1_1_1_1_1_0_1_1_0_0 w0 w1a w1l w1c w6 w7a w7l w7c w8 w9 (some ((.rw b19), 0)) v65 S69) (
 callI .i64 call 17 [(.ptr w6)] S69 fun v72 S71 =>
 cond (v72 != (IntKind.wrap .i64 ((IntKind.wrap .i64 (w0 - 2)) - w8))) (
 some ((.bool false), S71)) (
 l1_1_1_1_1_1_0_1_0 w0 w1a w1l w1c w4 w6 w7a w7l w7c w8 (IntKind.wrap .i64 (w9 + 1)) S71))) (
 callI .i64 call 17 [(.ptr w6)] S21 fun v74 S73 =>
 cond (v74 != (IntKind.wrap .i64 ((IntKind.wrap .i64 (w0 - 2)) - w8))) (
 some ((.bool false), S73)) (
 l1_1_1_1_1_1_0_1_0 w0 w1a w1l w1c w4 w6 w7a w7l w7c w8 (IntKind.wrap .i64 (w9 + 1)) S73))))) (
 callB call 7 [] S fun v76 S75 =>
 some ((.bool v76), S75))

def b3_l1_1_1_1_1_1_0_1_0_0_1_0_0_1_0_1_0_1_1_1_1_1_0_1_1_0_0 (call : CallA) (n : Nat)  (l1_1_1_1_1_1_0_1_0_0_1_0_0_1_0_1_0_1_1_1_1_1_0_1_1_0_0 : Int → Option Pos → Nat → Cap → Option Pos → Option Pos → Nat → Cap → Int → Int → Option Pos → Int → AS → Option (AV × AS)) (l1_1_1_1_1_1_0_1_0 : Int → Option Pos → Nat → Cap → AV → Option Pos → Option Pos → Nat → Cap → Int → Int → AS → Option (AV × AS)) (w0 : Int) (w1a : Option Pos) (w1l : Nat) (w1c : Cap) (w6 : Option Pos) (w7a : Option Pos) (w7l : Nat) (w7c : Cap) (w8 : Int) (w9 : Int) (w10 : Option Pos) (w16 : Int) (S : AS) : Option (AV × AS) :=
 gO w10 fun p77 =>
 ldI .u64 S p77.1 (p77.2 + 2) fun v78 =>
 cond (decide (w16 < v78)) (
 cond (decide (((w7l : Nat) : Int) > 0)) (
 ixSl 1 w7a w7l 0 fun p79 =>
 ldI .i64 S p79.1 p79.2 fun v80 =>
 slSl 1 w7a w7l w7c (some 1) none none fun v81a v81l v81c =>
 l1_1_1_1_1_1_0_1_0_0_1_0_0_1_0_1_0_1_1_1_1_1_0_1_1_0_0 w0 w1a w1l w1c w6 v81a v81l v81c (IntKind.wrap .i64 (w8 - v80)) w9 w10 (IntKind.wrap .u64 (w16 + 1)) S) (
 callI .i64 call 17 [(.ptr w6)] S fun v83 S82 =>
 cond (v83 != (IntKind.wrap .i64 ((IntKind.wrap .i64 (w0 - 2)) - w8))) (
 some ((.bool false), S82)) (
 l1_1_1_1_1_1_0_1_0 w0 w1a w1l w1c .undef w6 w7a w7l w7c w8 (IntKind.wrap .i64 (w9 + 1)) S82))) (
 callI .i64 call 17 [(.ptr w6)] S fun v85 S84 =>
 cond (v85 != (IntKind.wrap .i64 ((IntKind.wrap .i64 (w0 - 2)) - w8))) (
 some ((.bool false), S84)) (
 l1_1_1_1_1_1_0_1_0 w0 w1a w1l w1c .undef w6 w7a w7l w7c w8 (IntKind.wrap .i64 (w9 + 1)) S84))

def b3_entry (call : CallA) (n : Nat)  (l1_1_1_1_1_1_0_1_0 : Int → Option Pos → Nat → Cap → AV → Option Pos → Option Pos → Nat → Cap → Int → Int → AS → Option (AV × AS)) (x0 : Int) (x1a : Option Pos) (x1l : Nat) (x1c : Cap) (S : AS) : Option (AV × AS) :=
 callB call 6 [(.sl x1a x1l x1c)] S fun v2 S1 =>
 cond v2 (
 callB call 7 [] S1 fun v4 S3 =>
 some ((.bool v4), S3)) (
 callT call 8 [(.int .i64 x0)] S1 fun v6 S5 =>
 atP v6 0 fun v7 =>
 atP v6 1 fun v8 =>
 cond v7.isNone (
 cond (decide (x0 < 6)) (
 callB call 7 [] S5 fun v10 S9 =>
 some ((.bool v10), S9)) (
 cond (decide (x0 > 40)) (
 callB call 7 [] S5 fun v12 S11 =>
 some ((.bool v12), S11)) (
 some ((.bool false), S5)))) (
 cond v8.isNone (
 cond (decide (x0 < 6)) (
 callB call 7 [] S5 fun v14 S13 =>
 some ((.bool v14), S13)) (
 cond (decide (x0 > 40)) (
 callB call 7 [] S5 fun v16 S15 =>
 some ((.bool v16), S15)) (
 some ((.bool false), S5)))) (
 l1_1_1_1_1_1_0_1_0 x0 x1a x1l x1c (.bool false) v8 none 0 (.ex 0) 0 0 S5)))

def r3_l1_1_1_1_1_1_0_1_0 (call : CallA) (n : Nat)  (m : Nat) (w0 : Int) (w1a : Option Pos) (w1l : Nat) (w1c : Cap) (w4 : AV) (w6 : Option Pos) (w7a : Option Pos) (w7l : Nat) (w7c : Cap) (w8 : Int) (w9 : Int) (S : AS) : Option (AV × AS) := loopN (evC E call n 3 (E.at 3 [1, 1, 1, 1, 1, 1, 0, 1, 0, 0]) 0) [0, 1, 4, 6, 7, 8, 9] m [(0, (.int .i64 w0)), (1, (.sl w1a w1l w1c)), (4, w4), (6, (.ptr w6)), (7, (.sl w7a w7l w7c)), (8, (.int .i64 w8)), (9, (.int .i64 w9))] S (kBlk 0 (kSeq E call n 3 (E.at 3 [1, 1, 1, 1, 1, 1, 1]) 0 (retK E (E.fn 3))))
def r3_l1_1_1_1_1_1_0_1_0_0_1_0_0_1_0_1_0_1_1_1_1_1_0_1_1_0_0 (call : CallA) (n : Nat) (m1_1_1_1_1_1_0_1_0 : Nat) (m : Nat) (w0 : Int) (w1a : Option Pos) (w1l : Nat) (w1c : Cap) (w6 : Option Pos) (w7a : Option Pos) (w7l : Nat) (w7c : Cap) (w8 : Int) (w9 : Int) (w10 : Option Pos) (w16 : Int) (S : AS) : Option (AV × AS) := loopN (evC E call n 3 (E.at 3 [1, 1, 1, 1, 1, 1, 0, 1, 0, 0, 1, 0, 0, 1, 0, 1, 0, 1, 1, 1, 1, 1, 0, 1, 1, 0, 0, 0]) 3) [0, 1, 6, 7, 8, 9, 10, 16] m [(0, (.int .i64 w0)), (1, (.sl w1a w1l w1c)), (6, (.ptr w6)), (7, (.sl w7a w7l w7c)), (8, (.int .i64 w8)), (9, (.int .i64 w9)), (10, (.ptr w10)), (16, (.int .u64 w16))] S (kBlk 3 (kBlk 2 (kSeq E call n 3 (E.at 3 [1, 1, 1, 1, 1, 1, 0, 1, 0, 0, 1, 0, 0, 1, 1]) 1 (kBlk 1 (kSeq E call n 3 (E.at 3 [1, 1, 1, 1, 1, 1, 0, 1, 0, 0, 1, 1]) 0 (kLp (evC E call n 3 (E.at 3 [1, 1, 1, 1, 1, 1, 0, 1, 0, 0]) 0) [0, 1, 4, 6, 7, 8, 9] m1_1_1_1_1_1_0_1_0 (kBlk 0 (kSeq E call n 3 (E.at 3 [1, 1, 1, 1, 1, 1, 1]) 0 (retK E (E.fn 3))))))))))
theorem a3_l1_1_1_1_1_1_0_1_0 (call : CallA) (n : Nat)  (m : Nat) (w0 : Int) (w1a : Option Pos) (w1l : Nat) (w1c : Cap) (w4 : AV) (w6 : Option Pos) (w7a : Option Pos) (w7l : Nat) (w7c : Cap) (w8 : Int) (w9 : Int) (S : AS) : r3_l1_1_1_1_1_1_0_1_0 call n  (m + 1) w0 w1a w1l w1c w4 w6 w7a w7l w7c w8 w9 S = b3_l1_1_1_1_1_1_0_1_0 call n (r3_l1_1_1_1_1_1_0_1_0 call n  m) (r3_l1_1_1_1_1_1_0_1_0_0_1_0_0_1_0_1_0_1_1_1_1_1_0_1_1_0_0 call n m n) w0 w1a w1l w1c w4 w6 w7a w7l w7c w8 w9 S := by kernel_rfl
theorem a3_l1_1_1_1_1_1_0_1_0_0_1_0_0_1_0_1_0_1_1_1_1_1_0_1_1_0_0 (call : CallA) (n : Nat) (m1_1_1_1_1_1_0_1_0 : Nat) (m : Nat) (w0 : Int) (w1a : Option Pos) (w1l : Nat) (w1c : Cap) (w6 : Option Pos) (w7a : Option Pos) (w7l : Nat) (w7c : Cap) (w8 : Int) (w9 : Int) (w10 : Option Pos) (w16 : Int) (S : AS) : r3_l1_1_1_1_1_1_0_1_0_0_1_0_0_1_0_1_0_1_1_1_1_1_0_1_1_0_0 call n m1_1_1_1_1_1_0_1_0 (m + 1) w0 w1a w1l w1c w6 w7a w7l w7c w8 w9 w10 w16 S = b3_l1_1_1_1_1_1_0_1_0_0_1_0_0_1_0_1_0_1_1_1_1_1_0_1_1_0_0 call n (r3_l1_1_1_1_1_1_0_1_0_0_1_0_0_1_0_1_0_1_1_1_1_1_0_1_1_0_0 call n m1_1_1_1_1_1_0_1_0 m) (r3_l1_1_1_1_1_1_0_1_0 call n  m1_1_1_1_1_1_0_1_0) w0 w1a w1l w1c w6 w7a w7l w7c w8 w9 w10 w16 S := by kernel_rfl
theorem a3_entry (call : CallA) (n : Nat) (x0 : Int) (x1a : Option Pos) (x1l : Nat) (x1c : Cap) (S : AS) : evC E call n 3 (E.at 3 []) 0 (enumT 0 [(.int .i64 x0), (.sl x1a x1l x1c)]) S (retK E (E.fn 3)) = b3_entry call n (r3_l1_1_1_1_1_1_0_1_0 call n  n) x0 x1a x1l x1c S := by kernel_rfl
def J3_l1_1_1_1_1_1_0_1_0_0_1_0_0_1_0_1_0_1_1_1_1_1_0_1_1_0_0 (call : CallA) (n : Nat) (n1_1_1_1_1_1_0_1_0 : Int → Option Pos → Nat → Cap → AV → Option Pos → Option Pos → Nat → Cap → Int → Int → AS → Option (AV × AS)) (m : Nat) : Int → Option Pos → Nat → Cap → Option Pos → Option Pos → Nat → Cap → Int → Int → Option Pos → Int → AS → Option (AV × AS) := Nat.rec (motive := fun _ => Int → Option Pos → Nat → Cap → Option Pos → Option Pos → Nat → Cap → Int → Int → Option Pos → Int → AS → Option (AV × AS)) (fun _ _ _ _ _ _ _ _ _ _ _ _ _ => none) (fun mK ih w0 w1a w1l w1c w6 w7a w7l w7c w8 w9 w10 w16 S => b3_l1_1_1_1_1_1_0_1_0_0_1_0_0_1_0_1_0_1_1_1_1_1_0_1_1_0_0 call n ih n1_1_1_1_1_1_0_1_0 w0 w1a w1l w1c w6 w7a w7l w7c w8 w9 w10 w16 S) m
theorem J3_l1_1_1_1_1_1_0_1_0_0_1_0_0_1_0_1_0_1_1_1_1_1_0_1_1_0_0_succ (call : CallA) (n : Nat) (n1_1_1_1_1_1_0_1_0 : Int → Option Pos → Nat → Cap → AV → Option Pos → Option Pos → Nat → Cap → Int → Int → AS → Option (AV × AS)) (m : Nat) (w0 : Int) (w1a : Option Pos) (w1l : Nat) (w1c : Cap) (w6 : Option Pos) (w7a : Option Pos) (w7l : Nat) (w7c : Cap) (w8 : Int) (w9 : Int) (w10 : Option Pos) (w16 : Int) (S : AS) : J3_l1_1_1_1_1_1_0_1_0_0_1_0_0_1_0_1_0_1_1_1_1_1_0_1_1_0_0 call n n1_1_1_1_1_1_0_1_0 (m + 1) w0 w1a w1l w1c w6 w7a w7l w7c w8 w9 w10 w16 S = b3_l1_1_1_1_1_1_0_1_0_0_1_0_0_1_0_1_0_1_1_1_1_1_0_1_1_0_0 call n (J3_l1_1_1_1_1_1_0_1_0_0_1_0_0_1_0_1_0_1_1_1_1_1_0_1_1_0_0 call n n1_1_1_1_1_1_0_1_0 m) n1_1_1_1_1_1_0_1_0 w0 w1a w1l w1c w6 w7a w7l w7c w8 w9 w10 w16 S := rfl
theorem h3_l1_1_1_1_1_1_0_1_0_0_1_0_0_1_0_1_0_1_1_1_1_1_0_1_1_0_0 (call : CallA) (n : Nat) (m1_1_1_1_1_1_0_1_0 : Nat) (m : Nat) : r3_l1_1_1_1_1_1_0_1_0_0_1_0_0_1_0_1_0_1_1_1_1_1_0_1_1_0_0 call n m1_1_1_1_1_1_0_1_0 m = J3_l1_1_1_1_1_1_0_1_0_0_1_0_0_1_0_1_0_1_1_1_1_1_0_1_1_0_0 call n (r3_l1_1_1_1_1_1_0_1_0 call n  m1_1_1_1_1_1_0_1_0) m := by
  induction m with
  | zero => rfl
  | succ m ih =>
    funext w0 w1a w1l w1c w6 w7a w7l w7c w8 w9 w10 w16 S
    rw [J3_l1_1_1_1_1_1_0_1_0_0_1_0_0_1_0_1_0_1_1_1_1_1_0_1_1_0_0_succ, a3_l1_1_1_1_1_1_0_1_0_0_1_0_0_1_0_1_0_1_1_1_1_1_0_1_1_0_0, ih]
def J3_l1_1_1_1_1_1_0_1_0 (call : CallA) (n : Nat)  (m : Nat) : Int → Option Pos → Nat → Cap → AV → Option Pos → Option Pos → Nat → Cap → Int → Int → AS → Option (AV × AS) := Nat.rec (motive := fun _ => Int → Option Pos → Nat → Cap → AV → Option Pos → Option Pos → Nat → Cap → Int → Int → AS → Option (AV × AS)) (fun _ _ _ _ _ _ _ _ _ _ _ _ => none) (fun mK ih w0 w1a w1l w1c w4 w6 w7a w7l w7c w8 w9 S => b3_l1_1_1_1_1_1_0_1_0 call n ih (J3_l1_1_1_1_1_1_0_1_0_0_1_0_0_1_0_1_0_1_1_1_1_1_0_1_1_0_0 call n ih n) w0 w1a w1l w1c w4 w6 w7a w7l w7c w8 w9 S) m
theorem J3_l1_1_1_1_1_1_0_1_0_succ (call : CallA) (n : Nat)  (m : Nat) (w0 : Int) (w1a : Option Pos) (w1l : Nat) (w1c : Cap) (w4 : AV) (w6 : Option Pos) (w7a : Option Pos) (w7l : Nat) (w7c : Cap) (w8 : Int) (w9 : Int) (S : AS) : J3_l1_1_1_1_1_1_0_1_0 call n  (m + 1) w0 w1a w1l w1c w4 w6 w7a w7l w7c w8 w9 S = b3_l1_1_1_1_1_1_0_1_0 call n (J3_l1_1_1_1_1_1_0_1_0 call n  m) (J3_l1_1_1_1_1_1_0_1_0_0_1_0_0_1_0_1_0_1_1_1_1_1_0_1_1_0_0 call n (J3_l1_1_1_1_1_1_0_1_0 call n  m) n) w0 w1a w1l w1c w4 w6 w7a w7l w7c w8 w9 S := rfl
theorem h3_l1_1_1_1_1_1_0_1_0 (call : CallA) (n : Nat)  (m : Nat) : r3_l1_1_1_1_1_1_0_1_0 call n  m = J3_l1_1_1_1_1_1_0_1_0 call n  m := by
  induction m with
  | zero => rfl
  | succ m ih =>
    funext w0 w1a w1l w1c w4 w6 w7a w7l w7c w8 w9 S
    rw [J3_l1_1_1_1_1_1_0_1_0_succ, a3_l1_1_1_1_1_1_0_1_0, h3_l1_1_1_1_1_1_0_1_0_0_1_0_0_1_0_1_0_1_1_1_1_1_0_1_1_0_0 call n m n, ih]
def J3 (call : CallA) (n : Nat) (x0 : Int) (x1a : Option Pos) (x1l : Nat) (x1c : Cap) (S : AS) : Option (AV × AS) := b3_entry call n (J3_l1_1_1_1_1_1_0_1_0 call n  n) x0 x1a x1l x1c S
theorem run3 (o : Orc) (n : Nat) (args : List AV) (S : AS) (ho : o 3 args = none) : evF E o (n + 1) (.fn 3) args S = evC E (evF E o n) n 3 (E.at 3 []) 0 (enumT 0 args) S (retK E (E.fn 3)) := by
  rw [evF, ho]; kernel_rfl
theorem J3_eq (call : CallA) (n : Nat) (x0 : Int) (x1a : Option Pos) (x1l : Nat) (x1c : Cap) (S : AS) : evC E call n 3 (E.at 3 []) 0 (enumT 0 [(.int .i64 x0), (.sl x1a x1l x1c)]) S (retK E (E.fn 3)) = J3 call n x0 x1a x1l x1c S := by
  rw [J3, a3_entry, h3_l1_1_1_1_1_1_0_1_0 call n  n]
theorem F3 {o : Orc} (n : Nat) (x0 : Int) (x1a : Option Pos) (x1l : Nat) (x1c : Cap) (S : AS) (ho : ∀ args, o 3 args = none) : evF E o (n + 1) (.fn 3) [(.int .i64 x0), (.sl x1a x1l x1c)] S = J3 (evF E o n) n x0 x1a x1l x1c S := (run3 o n [(.int .i64 x0), (.sl x1a x1l x1c)] S (ho _)).trans (J3_eq _ _ x0 x1a x1l x1c S)
def b6_l1_1_0_1_0 (call : CallA) (n : Nat)  (l1_1_0_1_0_0_1_0_0_1_1_0 : Option Pos → Nat → Cap → Int → Int → Int → Int → AS → Option (AV × AS)) (j1_1_1 : Option Pos → Nat → Cap → Int → Int → AS → Option (AV × AS)) (w0a : Option Pos) (w0l : Nat) (w0c : Cap) (w3 : Int) (w4 : Int) (w5 : Int) (S : AS) : Option (AV × AS) :=
 cond (decide (w5 < ((w0l : Nat) : Int))) (
 cond (decide (w5 ≤ 30)) (
 ixSl 5 w0a w0l w5 fun p1 =>
 ldL S p1.1 (p1.2 + 3) fun v2a v2l v2c =>
 ixSl 5 w0a w0l w5 fun p3 =>
 ldL S p3.1 (p3.2 + 1) fun v4a v4l v4c =>
 l1_1_0_1_0_0_1_0_0_1_1_0 w0a w0l w0c (IntKind.wrap .i64 ((IntKind.wrap .i64 (w3 + ((v2l : Nat) : Int))) + ((v4l : Nat) : Int))) w4 w5 0 S) (
 j1_1_1 w0a w0l w0c w3 w4 S)) (
 j1_1_1 w0a w0l w0c w3 w4 S)

def b6_l1_1_0_1_0_0_1_0_0_1_1_0 (call : CallA) (n : Nat)  (l1_1_0_1_0_0_1_0_0_1_1_0 : Option Pos → Nat → Cap → Int → Int → Int → Int → AS → Option (AV × AS)) (j1_1_0_1_0_0_1_1 : Option Pos → Nat → Cap → Int → Int → Int → AS → Option (AV × AS)) (w0a : Option Pos) (w0l : Nat) (w0c : Cap) (w3 : Int) (w4 : Int) (w5 : Int) (w6 : Int) (S : AS) : Option (AV × AS) :=
 ixSl 5 w0a w0l w5 fun p5 =>
 ldL S p5.1 (p5.2 + 1) fun v6a v6l v6c =>
 cond (decide (w6 < ((v6l : Nat) : Int))) (
 cond (decide (w6 < 100)) (
 ixSl 5 w0a w0l w5 fun p7 =>
 ldL S p7.1 (p7.2 + 1) fun v8a v8l v8c =>
 ixSl 2 v8a v8l w6 fun p9 =>
 ldL S p9.1 (p9.2 + 1) fun v10a v10l v10c =>
 l1_1_0_1_0_0_1_0_0_1_1_0 w0a w0l w0c w3 (IntKind.wrap .i64 (w4 + ((v10l : Nat) : Int))) w5 (IntKind.wrap .i64 (w6 + 1)) S) (
 j1_1_0_1_0_0_1_1 w0a w0l w0c w3 w4 w5 S)) (
 j1_1_0_1_0_0_1_1 w0a w0l w0c w3 w4 w5 S)

def b6_j1_1_1 (call : CallA) (n : Nat)   (w0a : Option Pos) (w0l : Nat) (w0c : Cap) (w3 : Int) (w4 : Int) (S : AS) : Option (AV × AS) :=
 cond (decide (((w0l : Nat) : Int) > 30)) (
 some ((.bool true), S)) (
 cond (decide (w3 > 300)) (
 some ((.bool true), S)) (
 some ((.bool (decide (w4 > 60000))), S)))

def b6_j1_1_0_1_0_0_1_1 (call : CallA) (n : Nat)  (l1_1_0_1_0 : Option Pos → Nat → Cap → Int → Int → Int → AS → Option (AV × AS)) (w0a : Option Pos) (w0l : Nat) (w0c : Cap) (w3 : Int) (w4 : Int) (w5 : Int) (S : AS) : Option (AV × AS) :=
 l1_1_0_1_0 w0a w0l w0c w3 w4 (IntKind.wrap .i64 (w5 + 1)) S

def b6_entry (call : CallA) (n : Nat)  (l1_1_0_1_0 : Option Pos → Nat → Cap → Int → Int → Int → AS → Option (AV × AS)) (x0a : Option Pos) (x0l : Nat) (x0c : Cap) (S : AS) : Option (AV × AS) :=
 l1_1_0_1_0 x0a x0l x0c 0 0 0 S

def r6_l1_1_0_1_0 (call : CallA) (n : Nat)  (m : Nat) (w0a : Option Pos) (w0l : Nat) (w0c : Cap) (w3 : Int) (w4 : Int) (w5 : Int) (S : AS) : Option (AV × AS) := loopN (evC E call n 6 (E.at 6 [1, 1, 0, 1, 0, 0]) 0) [0, 3, 4, 5] m [(0, (.sl w0a w0l w0c)), (3, (.int .i64 w3)), (4, (.int .i64 w4)), (5, (.int .i64 w5))] S (kBlk 0 (kSeq E call n 6 (E.at 6 [1, 1, 1]) 0 (retK E (E.fn 6))))
def r6_l1_1_0_1_0_0_1_0_0_1_1_0 (call : CallA) (n : Nat) (m1_1_0_1_0 : Nat) (m : Nat) (w0a : Option Pos) (w0l : Nat) (w0c : Cap) (w3 : Int) (w4 : Int) (w5 : Int) (w6 : Int) (S : AS) : Option (AV × AS) := loopN (evC E call n 6 (E.at 6 [1, 1, 0, 1, 0, 0, 1, 0, 0, 1, 1, 0, 0]) 2) [0, 3, 4, 5, 6] m [(0, (.sl w0a w0l w0c)), (3, (.int .i64 w3)), (4, (.int .i64 w4)), (5, (.int .i64 w5)), (6, (.int .i64 w6))] S (kBlk 2 (kBlk 1 (kSeq E call n 6 (E.at 6 [1, 1, 0, 1, 0, 0, 1, 1]) 0 (kLp (evC E call n 6 (E.at 6 [1, 1, 0, 1, 0, 0]) 0) [0, 3, 4, 5] m1_1_0_1_0 (kBlk 0 (kSeq E call n 6 (E.at 6 [1, 1, 1]) 0 (retK E (E.fn 6))))))))
def r6_j1_1_1 (call : CallA) (n : Nat)  (w0a : Option Pos) (w0l : Nat) (w0c : Cap) (w3 : Int) (w4 : Int) (S : AS) : Option (AV × AS) := evC E call n 6 (E.at 6 [1, 1, 1]) 0 [(0, (.sl w0a w0l w0c)), (3, (.int .i64 w3)), (4, (.int .i64 w4))] S (retK E (E.fn 6))
def r6_j1_1_0_1_0_0_1_1 (call : CallA) (n : Nat) (m1_1_0_1_0 : Nat) (w0a : Option Pos) (w0l : Nat) (w0c : Cap) (w3 : Int) (w4 : Int) (w5 : Int) (S : AS) : Option (AV × AS) := evC E call n 6 (E.at 6 [1, 1, 0, 1, 0, 0, 1, 1]) 0 [(0, (.sl w0a w0l w0c)), (3, (.int .i64 w3)), (4, (.int .i64 w4)), (5, (.int .i64 w5))] S (kLp (evC E call n 6 (E.at 6 [1, 1, 0, 1, 0, 0]) 0) [0, 3, 4, 5] m1_1_0_1_0 (kBlk 0 (kSeq E call n 6 (E.at 6 [1, 1, 1]) 0 (retK E (E.fn 6)))))
theorem a6_l1_1_0_1_0 (call : CallA) (n : Nat)  (m : Nat) (w0a : Option Pos) (w0l : Nat) (w0c : Cap) (w3 : Int) (w4 : Int) (w5 : Int) (S : AS) : r6_l1_1_0_1_0 call n  (m + 1) w0a w0l w0c w3 w4 w5 S = b6_l1_1_0_1_0 call n (r6_l1_1_0_1_0_0_1_0_0_1_1_0 call n m n) (r6_j1_1_1 call n ) w0a w0l w0c w3 w4 w5 S := by kernel_rfl
theorem a6_l1_1_0_1_0_0_1_0_0_1_1_0 (call : CallA) (n : Nat) (m1_1_0_1_0 : Nat) (m : Nat) (w0a : Option Pos) (w0l : Nat) (w0c : Cap) (w3 : Int) (w4 : Int) (w5 : Int) (w6 : Int) (S : AS) : r6_l1_1_0_1_0_0_1_0_0_1_1_0 call n m1_1_0_1_0 (m + 1) w0a w0l w0c w3 w4 w5 w6 S = b6_l1_1_0_1_0_0_1_0_0_1_1_0 call n (r6_l1_1_0_1_0_0_1_0_0_1_1_0 call n m1_1_0_1_0 m) (r6_j1_1_0_1_0_0_1_1 call n m1_1_0_1_0) w0a w0l w0c w3 w4 w5 w6 S := by kernel_rfl
theorem a6_j1_1_1 (call : CallA) (n : Nat)  (w0a : Option Pos) (w0l : Nat) (w0c : Cap) (w3 : Int) (w4 : Int) (S : AS) : r6_j1_1_1 call n  w0a w0l w0c w3 w4 S = b6_j1_1_1 call n  w0a w0l w0c w3 w4 S := by kernel_rfl
theorem a6_j1_1_0_1_0_0_1_1 (call : CallA) (n : Nat) (m1_1_0_1_0 : Nat) (w0a : Option Pos) (w0l : Nat) (w0c : Cap) (w3 : Int) (w4 : Int) (w5 : Int) (S : AS) : r6_j1_1_0_1_0_0_1_1 call n m1_1_0_1_0 w0a w0l w0c w3 w4 w5 S = b6_j1_1_0_1_0_0_1_1 call n (r6_l1_1_0_1_0 call n  m1_1_0_1_0) w0a w0l w0c w3 w4 w5 S := by kernel_rfl
theorem a6_entry (call : CallA) (n : Nat) (x0a : Option Pos) (x0l : Nat) (x0c : Cap) (S : AS) : evC E call n 6 (E.at 6 []) 0 (enumT 0 [(.sl x0a x0l x0c)]) S (retK E (E.fn 6)) = b6_entry call n (r6_l1_1_0_1_0 call n  n) x0a x0l x0c S := by kernel_rfl
def J6_j1_1_0_1_0_0_1_1 (call : CallA) (n : Nat) (n1_1_0_1_0 : Option Pos → Nat → Cap → Int → Int → Int → AS → Option (AV × AS)) (w0a : Option Pos) (w0l : Nat) (w0c : Cap) (w3 : Int) (w4 : Int) (w5 : Int) (S : AS) : Option (AV × AS) := b6_j1_1_0_1_0_0_1_1 call n n1_1_0_1_0 w0a w0l w0c w3 w4 w5 S
theorem h6_j1_1_0_1_0_0_1_1 (call : CallA) (n : Nat) (m1_1_0_1_0 : Nat) : r6_j1_1_0_1_0_0_1_1 call n m1_1_0_1_0 = J6_j1_1_0_1_0_0_1_1 call n (r6_l1_1_0_1_0 call n  m1_1_0_1_0) := by
  funext w0a w0l w0c w3 w4 w5 S
  rw [J6_j1_1_0_1_0_0_1_1, a6_j1_1_0_1_0_0_1_1]
def J6_l1_1_0_1_0_0_1_0_0_1_1_0 (call : CallA) (n : Nat) (n1_1_0_1_0 : Option Pos → Nat → Cap → Int → Int → Int → AS → Option (AV × AS)) (m : Nat) : Option Pos → Nat → Cap → Int → Int → Int → Int → AS → Option (AV × AS) := Nat.rec (motive := fun _ => Option Pos → Nat → Cap → Int → Int → Int → Int → AS → Option (AV × AS)) (fun _ _ _ _ _ _ _ _ => none) (fun mK ih w0a w0l w0c w3 w4 w5 w6 S => b6_l1_1_0_1_0_0_1_0_0_1_1_0 call n ih (J6_j1_1_0_1_0_0_1_1 call n n1_1_0_1_0) w0a w0l w0c w3 w4 w5 w6 S) m
theorem J6_l1_1_0_1_0_0_1_0_0_1_1_0_succ (call : CallA) (n : Nat) (n1_1_0_1_0 : Option Pos → Nat → Cap → Int → Int → Int → AS → Option (AV × AS)) (m : Nat) (w0a : Option Pos) (w0l : Nat) (w0c : Cap) (w3 : Int) (w4 : Int) (w5 : Int) (w6 : Int) (S : AS) : J6_l1_1_0_1_0_0_1_0_0_1_1_0 call n n1_1_0_1_0 (m + 1) w0a w0l w0c w3 w4 w5 w6 S = b6_l1_1_0_1_0_0_1_0_0_1_1_0 call n (J6_l1_1_0_1_0_0_1_0_0_1_1_0 call n n1_1_0_1_0 m) (J6_j1_1_0_1_0_0_1_1 call n n1_1_0_1_0) w0a w0l w0c w3 w4 w5 w6 S := rfl
theorem h6_l1_1_0_1_0_0_1_0_0_1_1_0 (call : CallA) (n : Nat) (m1_1_0_1_0 : Nat) (m : Nat) : r6_l1_1_0_1_0_0_1_0_0_1_1_0 call n m1_1_0_1_0 m = J6_l1_1_0_1_0_0_1_0_0_1_1_0 call n (r6_l1_1_0_1_0 call n  m1_1_0_1_0) m := by
  induction m with
  | zero => rfl
  | succ m ih =>
    funext w0a w0l w0c w3 w4 w5 w6 S
    rw [J6_l1_1_0_1_0_0_1_0_0_1_1_0_succ, a6_l1_1_0_1_0_0_1_0_0_1_1_0, h6_j1_1_0_1_0_0_1_1 call n m1_1_0_1_0, ih]
def J6_j1_1_1 (call : CallA) (n : Nat)  (w0a : Option Pos) (w0l : Nat) (w0c : Cap) (w3 : Int) (w4 : Int) (S : AS) : Option (AV × AS) := b6_j1_1_1 call n  w0a w0l w0c w3 w4 S
theorem h6_j1_1_1 (call : CallA) (n : Nat)  : r6_j1_1_1 call n  = J6_j1_1_1 call n  := by
  funext w0a w0l w0c w3 w4 S
  rw [J6_j1_1_1, a6_j1_1_1]
def J6_l1_1_0_1_0 (call : CallA) (n : Nat)  (m : Nat) : Option Pos → Nat → Cap → Int → Int → Int → AS → Option (AV × AS) := Nat.rec (motive := fun _ => Option Pos → Nat → Cap → Int → Int → Int → AS → Option (AV × AS)) (fun _ _ _ _ _ _ _ => none) (fun mK ih w0a w0l w0c w3 w4 w5 S => b6_l1_1_0_1_0 call n (J6_l1_1_0_1_0_0_1_0_0_1_1_0 call n ih n) (J6_j1_1_1 call n ) w0a w0l w0c w3 w4 w5 S) m
theorem J6_l1_1_0_1_0_succ (call : CallA) (n : Nat)  (m : Nat) (w0a : Option Pos) (w0l : Nat) (w0c : Cap) (w3 : Int) (w4 : Int) (w5 : Int) (S : AS) : J6_l1_1_0_1_0 call n  (m + 1) w0a w0l w0c w3 w4 w5 S = b6_l1_1_0_1_0 call n (J6_l1_1_0_1_0_0_1_0_0_1_1_0 call n (J6_l1_1_0_1_0 call n  m) n) (J6_j1_1_1 call n ) w0a w0l w0c w3 w4 w5 S := rfl
theorem h6_l1_1_0_1_0 (call : CallA) (n : Nat)  (m : Nat) : r6_l1_1_0_1_0 call n  m = J6_l1_1_0_1_0 call n  m := by
  induction m with
  | zero => rfl
  | succ m ih =>
    funext w0a w0l w0c w3 w4 w5 S
    rw [J6_l1_1_0_1_0_succ, a6_l1_1_0_1_0, h6_l1_1_0_1_0_0_1_0_0_1_1_0 call n m n, h6_j1_1_1 call n , ih]
def J6 (call : CallA) (n : Nat) (x0a : Option Pos) (x0l : Nat) (x0c : Cap) (S : AS) : Option (AV × AS) := b6_entry call n (J6_l1_1_0_1_0 call n  n) x0a x0l x0c S
theorem run6 (o : Orc) (n : Nat) (args : List AV) (S : AS) (ho : o 6 args = none) : evF E o (n + 1) (.fn 6) args S = evC E (evF E o n) n 6 (E.at 6 []) 0 (enumT 0 args) S (retK E (E.fn 6)) := by
  rw [evF, ho]; kernel_rfl
theorem J6_eq (call : CallA) (n : Nat) (x0a : Option Pos) (x0l : Nat) (x0c : Cap) (S : AS) : evC E call n 6 (E.at 6 []) 0 (enumT 0 [(.sl x0a x0l x0c)]) S (retK E (E.fn 6)) = J6 call n x0a x0l x0c S := by
  rw [J6, a6_entry, h6_l1_1_0_1_0 call n  n]
theorem F6 {o : Orc} (n : Nat) (x0a : Option Pos) (x0l : Nat) (x0c : Cap) (S : AS) (ho : ∀ args, o 6 args = none) : evF E o (n + 1) (.fn 6) [(.sl x0a x0l x0c)] S = J6 (evF E o n) n x0a x0l x0c S := (run6 o n [(.sl x0a x0l x0c)] S (ho _)).trans (J6_eq _ _ x0a x0l x0c S)
def b7_entry (call : CallA) (n : Nat)    (S : AS) : Option (AV × AS) :=
 callP call 18 [(.int .i64 9)] S fun v2 S1 =>
 callI .i64 call 19 [(.iface 25 (.ptr v2)), (.int .i64 1), (.int .i64 8)] S1 fun v4 S3 =>
 callI .i64 call 13 [(.int .i64 v4)] S3 fun v6 S5 =>
 cond (v6 != 0) (
 some ((.bool false), S5)) (
 callT call 25 [(.iface 25 (.ptr v2)), (.int .i64 1), (.int .i64 8)] S5 fun v8 S7 =>
 atP v8 0 fun v9 =>
 atL v8 1 fun v10a v10l v10c =>
 atI .i64 v8 2 fun v11 =>
 callI .i64 call 13 [(.int .i64 v11)] S7 fun v13 S12 =>
 cond (v13 != 0) (
 some ((.bool false), S12)) (
 cond v9.isNone (
 some ((.bool false), S12)) (
 cond (((v10l : Nat) : Int) != 0) (
 some ((.bool false), S12)) (
 callI .i64 call 17 [(.ptr v9)] S12 fun v15 S14 =>
 cond (v15 != 6) (
 some ((.bool false), S14)) (
 callL call 30 [(.int .u8 97)] S14 fun v17a v17l v17c S16 =>
 newA S16 (.cells [(.int .i64 7), (.sl v17a v17l v17c)]) fun b18 S19 =>
 callT call 11 [(.ptr v9), (.sl (some (.rw b18, 0)) 1 (.ex 1))] S19 fun v21 S20 =>
 atI .u64 v21 0 fun v22 =>
 atI .i64 v21 1 fun v23 =>
 callL call 30 [(.int .u8 98)] S20 fun v25a v25l v25c S24 =>
 newA S24 (.cells [(.int .i64 8), (.sl v25a v25l v25c)]) fun b26 S27 =>
 callT call 11 [(.ptr v9), (.sl (some (.rw b26, 0)) 1 (.ex 1))] S27 fun v29 S28 =>
 atI .u64 v29 0 fun v30 =>
 atI .i64 v29 1 fun v31 =>
 newA S28 (.cells [(.int .i64 2), (.int .i64 3)]) fun b32 S33 =>
 callT call 24 [(.ptr v2), (.sl (some (.rw b32, 0)) 2 (.ex 2))] S33 fun v35 S34 =>
 callT call 25 [(.iface 25 (.ptr v2)), (.int .i64 1), (.int .i64 8)] S34 fun v37 S36 =>
 atP v37 0 fun v38 =>
 atL v37 1 fun v39a v39l v39c =>
 atI .i64 v37 2 fun v40 =>
 callI .i64 call 13 [(.int .i64 v40)] S36 fun v42 S41 =>
 cond (v42 != 0) (
 some ((.bool false), S41)) (
 cond v38.isNone (
 some ((.bool false), S41)) (
 cond (((v39l : Nat) : Int) != 0) (
 some ((.bool false), S41)) (
 callL call 30 [(.int .u8 99)] S41 fun v44a v44l v44c S43 =>
 newA S43 (.cells [(.int .i64 9), (.sl v44a v44l v44c)]) fun b45 S46 =>
 callT call 11 [(.ptr v38), (.sl (some (.rw b45, 0)) 1 (.ex 1))] S46 fun v48 S47 =>
 atI .u64 v48 0 fun v49 =>
 atI .i64 v48 1 fun v50 =>
 callI .i64 call 14 [(.ptr v38)] S47 fun v52 S51 =>
 callT call 24 [(.ptr v2), (.sl none 0 (.ex 0))] S51 fun v54 S53 =>
 callT call 25 [(.iface 25 (.ptr v2)), (.int .i64 1), (.int .i64 8)] S53 fun v56 S55 =>
 atP v56 0 fun v57 =>
 atL v56 1 fun v58a v58l v58c =>
 atI .i64 v56 2 fun v59 =>
 cond (v22 == 1) (
 callI .i64 call 13 [(.int .i64 v23)] S55 fun v61 S60 =>
 cond (v61 == 0) (
 cond (v30 == 2) (
 callI .i64 call 13 [(.int .i64 v31)] S60 fun v63 S62 =>
 cond (v63 == 0) (
 cond (v49 == 1) (
 callI .i64 call 13 [(.int .i64 v50)] S62 fun v65 S64 =>
 cond (v65 == 0) (
 callI .i64 call 13 [(.int .i64 v52)] S64 fun v67 S66 =>
 cond (v67 == 0) (
 callI .i64 call 13 [(.int .i64 v59)] S66 fun v69 S68 =>
 cond (v69 == 0) (
 cond (((v58l : Nat) : Int) == 1) (
 ixSl 1 v58a v58l 0 fun p70 =>
 ldL S68 p70.1 p70.2 fun v71a v71l v71c =>
 cond (((v71l : Nat) : Int) == 1) (
 ixSl 1 v58a v58l 0 fun p72 =>
 ldL S68 p72.1 p72.2 fun v73a v73l v73c =>
 ixSl 2 v73a v73l 0 fun p74 =>
 ldI .i64 S68 p74.1 p74.2 fun v75 =>
 cond (v75 == 9) (
 ixSl 1 v58a v58l 0 fun p76 =>
 ldL S68 p76.1 p76.2 fun v77a v77l v77c =>
 ixSl 2 v77a v77l 0 fun p78 =>
 ldL S68 p78.1 (p78.2 + 1) fun v79a v79l v79c =>
 bytesStr S68 v79a v79l fun s80 =>
 callL call 30 [(.int .u8 99)] S68 fun v82a v82l v82c S81 =>
 bytesStr S81 v79a v79l fun s83 =>
 cond (AV.beq (.str s83) (.str s80)) (
 ldL S81 p78.1 (p78.2 + 1) fun v84a v84l v84c =>
 cond (AV.beq (.sl v84a v84l v84c) (.sl v79a v79l v79c)) (
 ldL S81 p76.1 p76.2 fun v85a v85l v85c =>
 cond (AV.beq (.sl v85a v85l v85c) (.sl v77a v77l v77c)) (
 bytesStr S81 v82a v82l fun s86 =>
 cond (s80 == s86) (
 callI .u64 call 31 [(.ptr v38)] S81 fun v88 S87 =>
 cond (v88 == 3) (
 callI .i64 call 10 [(.int .i64 1)] S87 fun v90 S89 =>
 some ((.bool (v90 == 2)), S89)) (
 some ((.bool false), S87))) (
 some ((.bool false), S81))) none) none) none) (
 some ((.bool false), S68))) (
 some ((.bool false), S68))) (
 some ((.bool false), S68))) (
 some ((.bool false), S68))) (
 some ((.bool false), S66))) (
 some ((.bool false), S64))) (
 some ((.bool false), S62))) (
 some ((.bool false), S62))) (
 some ((.bool false), S60))) (
 some ((.bool false), S60))) (
 some ((.bool false), S55))))))))))

theorem a7_entry (call : CallA) (n : Nat)  (S : AS) : evC E call n 7 (E.at 7 []) 0 (enumT 0 []) S (retK E (E.fn 7)) = b7_entry call n   S := by kernel_rfl
def J7 (call : CallA) (n : Nat)  (S : AS) : Option (AV × AS) := b7_entry call n   S
theorem run7 (o : Orc) (n : Nat) (args : List AV) (S : AS) (ho : o 7 args = none) : evF E o (n + 1) (.fn 7) args S = evC E (evF E o n) n 7 (E.at 7 []) 0 (enumT 0 args) S (retK E (E.fn 7)) := by
  rw [evF, ho]; kernel_rfl
theorem J7_eq (call : CallA) (n : Nat)  (S : AS) : evC E call n 7 (E.at 7 []) 0 (enumT 0 []) S (retK E (E.fn 7)) = J7 call n  S := by
  rw [J7, a7_entry]
theorem F7 {o : Orc} (n : Nat)  (S : AS) (ho : ∀ args, o 7 args = none) : evF E o (n + 1) (.fn 7) [] S = J7 (evF E o n) n  S := (run7 o n [] S (ho _)).trans (J7_eq _ _  S)
def b8_entry (call : CallA) (n : Nat)   (x0 : Int) (S : AS) : Option (AV × AS) :=
 cond (decide (x0 < 6)) (
 some (.tup [(.ptr none), (.ptr none)], S)) (
 cond (decide (x0 > 40)) (
 some (.tup [(.ptr none), (.ptr none)], S)) (
 callP call 18 [(.int .i64 x0)] S fun v2 S1 =>
 callI .i64 call 19 [(.iface 25 (.ptr v2)), (.int .i64 0), (.int .i64 x0)] S1 fun v4 S3 =>
 callI .i64 call 13 [(.int .i64 v4)] S3 fun v6 S5 =>
 cond (v6 != 0) (
 some (.tup [(.ptr none), (.ptr none)], S5)) (
 callT call 25 [(.iface 25 (.ptr v2)), (.int .i64 0), (.int .i64 x0)] S5 fun v8 S7 =>
 atP v8 0 fun v9 =>
 atL v8 1 fun v10a v10l v10c =>
 atI .i64 v8 2 fun v11 =>
 callI .i64 call 13 [(.int .i64 v11)] S7 fun v13 S12 =>
 cond (v13 != 0) (
 some (.tup [(.ptr none), (.ptr none)], S12)) (
 some (.tup [(.ptr v2), (.ptr v9)], S12)))))

theorem a8_entry (call : CallA) (n : Nat) (x0 : Int) (S : AS) : evC E call n 8 (E.at 8 []) 0 (enumT 0 [(.int .i64 x0)]) S (retK E (E.fn 8)) = b8_entry call n  x0 S := by kernel_rfl
def J8 (call : CallA) (n : Nat) (x0 : Int) (S : AS) : Option (AV × AS) := b8_entry call n  x0 S
theorem run8 (o : Orc) (n : Nat) (args : List AV) (S : AS) (ho : o 8 args = none) : evF E o (n + 1) (.fn 8) args S = evC E (evF E o n) n 8 (E.at 8 []) 0 (enumT 0 args) S (retK E (E.fn 8)) := by
  rw [evF, ho]; kernel_rfl
theorem J8_eq (call : CallA) (n : Nat) (x0 : Int) (S : AS) : evC E call n 8 (E.at 8 []) 0 (enumT 0 [(.int .i64 x0)]) S (retK E (E.fn 8)) = J8 call n x0 S := by
  rw [J8, a8_entry]
theorem F8 {o : Orc} (n : Nat) (x0 : Int) (S : AS) (ho : ∀ args, o 8 args = none) : evF E o (n + 1) (.fn 8) [(.int .i64 x0)] S = J8 (evF E o n) n x0 S := (run8 o n [(.int .i64 x0)] S (ho _)).trans (J8_eq _ _ x0 S)
def b9_l1_1_1_0_1_0 (call : CallA) (n : Nat)  (l1_1_1_0_1_0 : Option Pos → Nat → Cap → Option Pos → Nat → Cap → Int → Option Pos → Nat → Cap → Int → AS → Option (AV × AS)) (j1_1_1_1 : Option Pos → Nat → Cap → AS → Option (AV × AS)) (w0a : Option Pos) (w0l : Nat) (w0c : Cap) (w2a : Option Pos) (w2l : Nat) (w2c : Cap) (w3 : Int) (w4a : Option Pos) (w4l : Nat) (w4c : Cap) (w5 : Int) (S : AS) : Option (AV × AS) :=
 cond (decide (w5 < ((w0l : Nat) : Int))) (
 ixSl 2 w0a w0l w5 fun p3 =>
 ldI .i64 S p3.1 p3.2 fun v4 =>
 cond (decide (v4 < 0)) (
 some (.tup [(.sl none 0 (.ex 0)), (.int .i64 82)], S)) (
 ixSl 2 w0a w0l w5 fun p5 =>
 ldI .i64 S p5.1 p5.2 fun v6 =>
 cond (decide (v6 > 2147483647)) (
 some (.tup [(.sl none 0 (.ex 0)), (.int .i64 82)], S)) (
 ixSl 2 w0a w0l w5 fun p7 =>
 ldL S p7.1 (p7.2 + 1) fun v8a v8l v8c =>
 cond (((v8l : Nat) : Int) != 384) (
 some (.tup [(.sl none 0 (.ex 0)), (.int .i64 82)], S)) (
 ixSl 2 w0a w0l w5 fun p9 =>
 ldI .i64 S p9.1 p9.2 fun v10 =>
 callL call 32 [(.sl w4a w4l w4c), (.int .u64 (IntKind.wrap .u64 v10)), (.int .i64 4)] S fun v12a v12l v12c S11 =>
 ixSl 2 w0a w0l w5 fun p13 =>
 ldL S11 p13.1 (p13.2 + 1) fun v14a v14l v14c =>
 ldL S p13.1 (p13.2 + 1) fun v15a v15l v15c =>
 cond (AV.beq (.sl v15a v15l v15c) (.sl v14a v14l v14c)) (
 appendA 1 1 S11 v12a v12l v12c v14l (firstA S11 1 v14l (.sl v14a v14l v14c)) fun v16a v16l v16c S17 =>
 l1_1_1_0_1_0 w0a w0l w0c w2a w2l w2c w3 v16a v16l v16c (IntKind.wrap .i64 (w5 + 1)) S17) none)))) (
 j1_1_1_1 w4a w4l w4c S)

def b9_j1_1_1_1 (call : CallA) (n : Nat)   (w4a : Option Pos) (w4l : Nat) (w4c : Cap) (S : AS) : Option (AV × AS) :=
 some (.tup [(.sl w4a w4l w4c), (.int .i64 0)], S)

def b9_entry (call : CallA) (n : Nat)  (l1_1_1_0_1_0 : Option Pos → Nat → Cap → Option Pos → Nat → Cap → Int → Option Pos → Nat → Cap → Int → AS → Option (AV × AS)) (x0a : Option Pos) (x0l : Nat) (x0c : Cap) (S : AS) : Option (AV × AS) :=
 cond (decide (((x0l : Nat) : Int) < 1)) (
 some (.tup [(.sl none 0 (.ex 0)), (.int .i64 82)], S)) (
 cond (decide (((x0l : Nat) : Int) > 64)) (
 some (.tup [(.sl none 0 (.ex 0)), (.int .i64 82)], S)) (
 callL call 32 [(.sl none 0 (.ex 0)), (.int .u64 (IntKind.wrap .u64 ((x0l : Nat) : Int))), (.int .i64 4)] S fun v2a v2l v2c S1 =>
 l1_1_1_0_1_0 x0a x0l x0c none 0 (.ex 0) 0 v2a v2l v2c 0 S1))

def r9_l1_1_1_0_1_0 (call : CallA) (n : Nat)  (m : Nat) (w0a : Option Pos) (w0l : Nat) (w0c : Cap) (w2a : Option Pos) (w2l : Nat) (w2c : Cap) (w3 : Int) (w4a : Option Pos) (w4l : Nat) (w4c : Cap) (w5 : Int) (S : AS) : Option (AV × AS) := loopN (evC E call n 9 (E.at 9 [1, 1, 1, 0, 1, 0, 0]) 0) [0, 2, 3, 4, 5] m [(0, (.sl w0a w0l w0c)), (2, (.sl w2a w2l w2c)), (3, (.int .i64 w3)), (4, (.sl w4a w4l w4c)), (5, (.int .i64 w5))] S (kBlk 0 (kSeq E call n 9 (E.at 9 [1, 1, 1, 1]) 0 (retK E (E.fn 9))))
def r9_j1_1_1_1 (call : CallA) (n : Nat)  (w4a : Option Pos) (w4l : Nat) (w4c : Cap) (S : AS) : Option (AV × AS) := evC E call n 9 (E.at 9 [1, 1, 1, 1]) 0 [(4, (.sl w4a w4l w4c))] S (retK E (E.fn 9))
theorem a9_l1_1_1_0_1_0 (call : CallA) (n : Nat)  (m : Nat) (w0a : Option Pos) (w0l : Nat) (w0c : Cap) (w2a : Option Pos) (w2l : Nat) (w2c : Cap) (w3 : Int) (w4a : Option Pos) (w4l : Nat) (w4c : Cap) (w5 : Int) (S : AS) : r9_l1_1_1_0_1_0 call n  (m + 1) w0a w0l w0c w2a w2l w2c w3 w4a w4l w4c w5 S = b9_l1_1_1_0_1_0 call n (r9_l1_1_1_0_1_0 call n  m) (r9_j1_1_1_1 call n ) w0a w0l w0c w2a w2l w2c w3 w4a w4l w4c w5 S := by kernel_rfl
theorem a9_j1_1_1_1 (call : CallA) (n : Nat)  (w4a : Option Pos) (w4l : Nat) (w4c : Cap) (S : AS) : r9_j1_1_1_1 call n  w4a w4l w4c S = b9_j1_1_1_1 call n  w4a w4l w4c S := by kernel_rfl
theorem a9_entry (call : CallA) (n : Nat) (x0a : Option Pos) (x0l : Nat) (x0c : Cap) (S : AS) : evC E call n 9 (E.at 9 []) 0 (enumT 0 [(.sl x0a x0l x0c)]) S (retK E (E.fn 9)) = b9_entry call n (r9_l1_1_1_0_1_0 call n  n) x0a x0l x0c S := by kernel_rfl
def J9_j1_1_1_1 (call : CallA) (n : Nat)  (w4a : Option Pos) (w4l : Nat) (w4c : Cap) (S : AS) : Option (AV × AS) := b9_j1_1_1_1 call n  w4a w4l w4c S
theorem h9_j1_1_1_1 (call : CallA) (n : Nat)  : r9_j1_1_1_1 call n  = J9_j1_1_1_1 call n  := by
  funext w4a w4l w4c S
  rw [J9_j1_1_1_1, a9_j1_1_1_1]
def J9_l1_1_1_0_1_0 (call : CallA) (n : Nat)  (m : Nat) : Option Pos → Nat → Cap → Option Pos → Nat → Cap → Int → Option Pos → Nat → Cap → Int → AS → Option (AV × AS) := Nat.rec (motive := fun _ => Option Pos → Nat → Cap → Option Pos → Nat → Cap → Int → Option Pos → Nat → Cap → Int → AS → Option (AV × AS)) (fun _ _ _ _ _ _ _ _ _ _ _ _ => none) (fun mK ih w0a w0l w0c w2a w2l w2c w3 w4a w4l w4c w5 S => b9_l1_1_1_0_1_0 call n ih (J9_j1_1_1_1 call n ) w0a w0l w0c w2a w2l w2c w3 w4a w4l w4c w5 S) m
theorem J9_l1_1_1_0_1_0_succ (call : CallA) (n : Nat)  (m : Nat) (w0a : Option Pos) (w0l : Nat) (w0c : Cap) (w2a : Option Pos) (w2l : Nat) (w2c : Cap) (w3 : Int) (w4a : Option Pos) (w4l : Nat) (w4c : Cap) (w5 : Int) (S : AS) : J9_l1_1_1_0_1_0 call n  (m + 1) w0a w0l w0c w2a w2l w2c w3 w4a w4l w4c w5 S = b9_l1_1_1_0_1_0 call n (J9_l1_1_1_0_1_0 call n  m) (J9_j1_1_1_1 call n ) w0a w0l w0c w2a w2l w2c w3 w4a w4l w4c w5 S := rfl
theorem h9_l1_1_1_0_1_0 (call : CallA) (n : Nat)  (m : Nat) : r9_l1_1_1_0_1_0 call n  m = J9_l1_1_1_0_1_0 call n  m := by
  induction m with
  | zero => rfl
  | succ m ih =>
    funext w0a w0l w0c w2a w2l w2c w3 w4a w4l w4c w5 S
    rw [J9_l1_1_1_0_1_0_succ, a9_l1_1_1_0_1_0, h9_j1_1_1_1 call n , ih]
def J9 (call : CallA) (n : Nat) (x0a : Option Pos) (x0l : Nat) (x0c : Cap) (S : AS) : Option (AV × AS) := b9_entry call n (J9_l1_1_1_0_1_0 call n  n) x0a x0l x0c S
theorem run9 (o : Orc) (n : Nat) (args : List AV) (S : AS) (ho : o 9 args = none) : evF E o (n + 1) (.fn 9) args S = evC E (evF E o n) n 9 (E.at 9 []) 0 (enumT 0 args) S (retK E (E.fn 9)) := by
  rw [evF, ho]; kernel_rfl
theorem J9_eq (call : CallA) (n : Nat) (x0a : Option Pos) (x0l : Nat) (x0c : Cap) (S : AS) : evC E call n 9 (E.at 9 []) 0 (enumT 0 [(.sl x0a x0l x0c)]) S (retK E (E.fn 9)) = J9 call n x0a x0l x0c S := by
  rw [J9, a9_entry, h9_l1_1_1_0_1_0 call n  n]
theorem F9 {o : Orc} (n : Nat) (x0a : Option Pos) (x0l : Nat) (x0c : Cap) (S : AS) (ho : ∀ args, o 9 args = none) : evF E o (n + 1) (.fn 9) [(.sl x0a x0l x0c)] S = J9 (evF E o n) n x0a x0l x0c S := (run9 o n [(.sl x0a x0l x0c)] S (ho _)).trans (J9_eq _ _ x0a x0l x0c S)
def b10_entry (call : CallA) (n : Nat)   (x0 : Int) (S : AS) : Option (AV × AS) :=
 cond (decide (x0 < 1)) (
 some ((.int .i64 0), S)) (
 cond (decide (x0 > 64)) (
 some ((.int .i64 0), S)) (
 some ((.int .i64 (IntKind.wrap .i64 (Int.tdiv (IntKind.wrap .i64 ((IntKind.wrap .i64 ((IntKind.wrap .i64 (4 + (IntKind.wrap .i64 (x0 * 388)))) + 336)) - 1)) 336))), S)))

theorem a10_entry (call : CallA) (n : Nat) (x0 : Int) (S : AS) : evC E call n 10 (E.at 10 []) 0 (enumT 0 [(.int .i64 x0)]) S (retK E (E.fn 10)) = b10_entry call n  x0 S := by kernel_rfl
def J10 (call : CallA) (n : Nat) (x0 : Int) (S : AS) : Option (AV × AS) := b10_entry call n  x0 S
theorem run10 (o : Orc) (n : Nat) (args : List AV) (S : AS) (ho : o 10 args = none) : evF E o (n + 1) (.fn 10) args S = evC E (evF E o n) n 10 (E.at 10 []) 0 (enumT 0 args) S (retK E (E.fn 10)) := by
  rw [evF, ho]; kernel_rfl
theorem J10_eq (call : CallA) (n : Nat) (x0 : Int) (S : AS) : evC E call n 10 (E.at 10 []) 0 (enumT 0 [(.int .i64 x0)]) S (retK E (E.fn 10)) = J10 call n x0 S := by
  rw [J10, a10_entry]
theorem F10 {o : Orc} (n : Nat) (x0 : Int) (S : AS) (ho : ∀ args, o 10 args = none) : evF E o (n + 1) (.fn 10) [(.int .i64 x0)] S = J10 (evF E o n) n x0 S := (run10 o n [(.int .i64 x0)] S (ho _)).trans (J10_eq _ _ x0 S)
def b11_l1_1_1_1_1_1_1_1_0_1_0 (call : CallA) (n : Nat)  (l1_1_1_1_1_1_1_1_0_1_0 : Option Pos → Int → Int → Option Pos → Nat → Cap → Int → Int → Int → Int → Int → AS → Option (AV × AS)) (j1_1_1_1_1_1_1_1_1 : Option Pos → Int → Int → AS → Option (AV × AS)) (w0 : Option Pos) (w4 : Int) (w5 : Int) (w6a : Option Pos) (w6l : Nat) (w6c : Cap) (w8 : Int) (w9 : Int) (w10 : Int) (w60 : Int) (w61 : Int) (S : AS) : Option (AV × AS) :=
 cond (decide (w61 < w60)) (
 slSl 1 w6a w6l w6c (some (IntKind.wrap .i64 (w61 * 336))) (some (if ((w6l : Nat) : Int) < (IntKind.wrap .i64 ((IntKind.wrap .i64 (w61 + 1)) * 336)) then ((w6l : Nat) : Int) else (IntKind.wrap .i64 ((IntKind.wrap .i64 (w61 + 1)) * 336)))) none fun v23a v23l v23c =>
 gO w0 fun p24 =>
 ldI .u64 S p24.1 (p24.2 + 3 + 1) fun v25 =>
 gO w0 fun p26 =>
 ldI .u64 S p26.1 (p26.2 + 11) fun v27 =>
 callT call 36 [(.agg [(.int .u64 v25), (.int .u64 v27), (.int .u64 (IntKind.wrap .u64 (w9 + (IntKind.wrap .u64 w61)))), (.int .u64 w10), (.int .i64 w61), (.int .i64 w8), (.sl v23a v23l v23c)])] S fun v29 S28 =>
 atL v29 0 fun v30a v30l v30c =>
 atI .i64 v29 1 fun v31 =>
 gO w0 fun p32 =>
 ldV S28 p32.1 p32.2 fun v33 =>
 callI .i64 call 37 [(.ptr w0), (.int .u64 (IntKind.wrap .u64 (w9 + (IntKind.wrap .u64 w61))))] S28 fun v35 S34 =>
 ldV S34 p32.1 p32.2 fun v36 =>
 cond (AV.beq v36 v33) (
 nilV E v33 fun v37 =>
 invV E call v33 "Write" [(.int .i64 v35), (.sl v30a v30l v30c)] S34 fun v39 S38 =>
 gIk .i64 v39 fun v40 =>
 cond (v40 != 0) (
 some (.tup [(.int .u64 0), (.int .i64 v40)], S38)) (
 l1_1_1_1_1_1_1_1_0_1_0 w0 w4 w5 w6a w6l w6c w8 w9 w10 w60 (IntKind.wrap .i64 (w61 + 1)) S38)) none) (
 j1_1_1_1_1_1_1_1_1 w0 w8 w10 S)

def b11_j1_1_1_1_1_1_1_1_1 (call : CallA) (n : Nat)   (w0 : Option Pos) (w8 : Int) (w10 : Int) (S : AS) : Option (AV × AS) :=
 drawA S 22 fun b41 S42 =>
 gO w0 fun p43 =>
 ldL S42 p43.1 (p43.2 + 9) fun v44a v44l v44c =>
 gO w0 fun p45 =>
 ldI .u64 S42 p45.1 (p45.2 + 3 + 1) fun v46 =>
 gO w0 fun p47 =>
 ldI .u64 S42 p47.1 (p47.2 + 11) fun v48 =>
 layA S42 (b41 + 17) (.cells [(.int .i64 w8), (.int .u64 v46), (.int .u64 v48)]) fun S49 =>
 appendA 3 24 S49 v44a v44l v44c 1 (firstA S49 3 1 (.sl (some (.rw (b41 + 17), 0)) 1 (.ex 1))) fun v50a v50l v50c S51 =>
 gO w0 fun p52 =>
 S51.stn p52.1 (p52.2 + 9) [(.sl v50a v50l v50c)] fun S53 =>
 some (.tup [(.int .u64 w10), (.int .i64 0)], S53)

def b11_entry (call : CallA) (n : Nat)  (l1_1_1_1_1_1_1_1_0_1_0 : Option Pos → Int → Int → Option Pos → Nat → Cap → Int → Int → Int → Int → Int → AS → Option (AV × AS)) (x0 : Option Pos) (x1a : Option Pos) (x1l : Nat) (x1c : Cap) (S : AS) : Option (AV × AS) :=
 cond x0.isNone (
 some (.tup [(.int .u64 0), (.int .i64 7)], S)) (
 callT call 33 [(.sl x1a x1l x1c)] S fun v2 S1 =>
 atL v2 0 fun v3a v3l v3c =>
 atI .i64 v2 1 fun v4 =>
 cond (v4 != 0) (
 some (.tup [(.int .u64 0), (.int .i64 v4)], S1)) (
 callI .i64 call 10 [(.int .i64 ((x1l : Nat) : Int))] S1 fun v6 S5 =>
 callI .u64 call 34 [(.ptr x0)] S5 fun v8 S7 =>
 callI .u64 call 29 [(.ptr x0)] S7 fun v10 S9 =>
 callI .i64 call 17 [(.ptr x0)] S9 fun v12 S11 =>
 cond (decide (v6 > v12)) (
 some (.tup [(.int .u64 0), (.int .i64 5)], S11)) (
 gO x0 fun p13 =>
 ldI .u64 S11 p13.1 (p13.2 + 11) fun v14 =>
 newA S11 (.cells [(.int .u64 (IntKind.wrap .u64 (v10 + 1))), (.int .u64 (IntKind.wrap .u64 (v14 + 1))), (.int .u64 (IntKind.wrap .u64 (v8 + (IntKind.wrap .u64 v6))))]) fun b15 S16 =>
 callB call 35 [(.sl (some (.rw b15, 0)) 3 (.ex 3))] S16 fun v18 S17 =>
 cond (!v18) (
 some (.tup [(.int .u64 0), (.int .i64 5)], S17)) (
 gO x0 fun p19 =>
 ldI .u64 S17 p19.1 (p19.2 + 11) fun v20 =>
 gO x0 fun p21 =>
 S17.stn p21.1 (p21.2 + 11) [(.int .u64 (IntKind.wrap .u64 (v20 + 1)))] fun S22 =>
 l1_1_1_1_1_1_1_1_0_1_0 x0 0 0 v3a v3l v3c v6 v8 (IntKind.wrap .u64 (v10 + 1)) v6 0 S22))))

def r11_l1_1_1_1_1_1_1_1_0_1_0 (call : CallA) (n : Nat)  (m : Nat) (w0 : Option Pos) (w4 : Int) (w5 : Int) (w6a : Option Pos) (w6l : Nat) (w6c : Cap) (w8 : Int) (w9 : Int) (w10 : Int) (w60 : Int) (w61 : Int) (S : AS) : Option (AV × AS) := loopN (evC E call n 11 (E.at 11 [1, 1, 1, 1, 1, 1, 1, 1, 0, 1, 0, 0]) 0) [0, 4, 5, 6, 8, 9, 10, 60, 61] m [(0, (.ptr w0)), (4, (.int .u64 w4)), (5, (.int .i64 w5)), (6, (.sl w6a w6l w6c)), (8, (.int .i64 w8)), (9, (.int .u64 w9)), (10, (.int .u64 w10)), (60, (.int .i64 w60)), (61, (.int .i64 w61))] S (kBlk 0 (kSeq E call n 11 (E.at 11 [1, 1, 1, 1, 1, 1, 1, 1, 1]) 0 (retK E (E.fn 11))))
def r11_j1_1_1_1_1_1_1_1_1 (call : CallA) (n : Nat)  (w0 : Option Pos) (w8 : Int) (w10 : Int) (S : AS) : Option (AV × AS) := evC E call n 11 (E.at 11 [1, 1, 1, 1, 1, 1, 1, 1, 1]) 0 [(0, (.ptr w0)), (8, (.int .i64 w8)), (10, (.int .u64 w10))] S (retK E (E.fn 11))
theorem a11_l1_1_1_1_1_1_1_1_0_1_0 (call : CallA) (n : Nat)  (m : Nat) (w0 : Option Pos) (w4 : Int) (w5 : Int) (w6a : Option Pos) (w6l : Nat) (w6c : Cap) (w8 : Int) (w9 : Int) (w10 : Int) (w60 : Int) (w61 : Int) (S : AS) : r11_l1_1_1_1_1_1_1_1_0_1_0 call n  (m + 1) w0 w4 w5 w6a w6l w6c w8 w9 w10 w60 w61 S = b11_l1_1_1_1_1_1_1_1_0_1_0 call n (r11_l1_1_1_1_1_1_1_1_0_1_0 call n  m) (r11_j1_1_1_1_1_1_1_1_1 call n ) w0 w4 w5 w6a w6l w6c w8 w9 w10 w60 w61 S := by kernel_rfl
theorem a11_j1_1_1_1_1_1_1_1_1 (call : CallA) (n : Nat)  (w0 : Option Pos) (w8 : Int) (w10 : Int) (S : AS) : r11_j1_1_1_1_1_1_1_1_1 call n  w0 w8 w10 S = b11_j1_1_1_1_1_1_1_1_1 call n  w0 w8 w10 S := by kernel_rfl
theorem a11_entry (call : CallA) (n : Nat) (x0 : Option Pos) (x1a : Option Pos) (x1l : Nat) (x1c : Cap) (S : AS) : evC E call n 11 (E.at 11 []) 0 (enumT 0 [(.ptr x0), (.sl x1a x1l x1c)]) S (retK E (E.fn 11)) = b11_entry call n (r11_l1_1_1_1_1_1_1_1_0_1_0 call n  n) x0 x1a x1l x1c S := by kernel_rfl
def J11_j1_1_1_1_1_1_1_1_1 (call : CallA) (n : Nat)  (w0 : Option Pos) (w8 : Int) (w10 : Int) (S : AS) : Option (AV × AS) := b11_j1_1_1_1_1_1_1_1_1 call n  w0 w8 w10 S
theorem h11_j1_1_1_1_1_1_1_1_1 (call : CallA) (n : Nat)  : r11_j1_1_1_1_1_1_1_1_1 call n  = J11_j1_1_1_1_1_1_1_1_1 call n  := by
  funext w0 w8 w10 S
  rw [J11_j1_1_1_1_1_1_1_1_1, a11_j1_1_1_1_1_1_1_1_1]
def J11_l1_1_1_1_1_1_1_1_0_1_0 (call : CallA) (n : Nat)  (m : Nat) : Option Pos → Int → Int → Option Pos → Nat → Cap → Int → Int → Int → Int → Int → AS → Option (AV × AS) := Nat.rec (motive := fun _ => Option Pos → Int → Int → Option Pos → Nat → Cap → Int → Int → Int → Int → Int → AS → Option (AV × AS)) (fun _ _ _ _ _ _ _ _ _ _ _ _ => none) (fun mK ih w0 w4 w5 w6a w6l w6c w8 w9 w10 w60 w61 S => b11_l1_1_1_1_1_1_1_1_0_1_0 call n ih (J11_j1_1_1_1_1_1_1_1_1 call n ) w0 w4 w5 w6a w6l w6c w8 w9 w10 w60 w61 S) m
theorem J11_l1_1_1_1_1_1_1_1_0_1_0_succ (call : CallA) (n : Nat)  (m : Nat) (w0 : Option Pos) (w4 : Int) (w5 : Int) (w6a : Option Pos) (w6l : Nat) (w6c : Cap) (w8 : Int) (w9 : Int) (w10 : Int) (w60 : Int) (w61 : Int) (S : AS) : J11_l1_1_1_1_1_1_1_1_0_1_0 call n  (m + 1) w0 w4 w5 w6a w6l w6c w8 w9 w10 w60 w61 S = b11_l1_1_1_1_1_1_1_1_0_1_0 call n (J11_l1_1_1_1_1_1_1_1_0_1_0 call n  m) (J11_j1_1_1_1_1_1_1_1_1 call n ) w0 w4 w5 w6a w6l w6c w8 w9 w10 w60 w61 S := rfl
theorem h11_l1_1_1_1_1_1_1_1_0_1_0 (call : CallA) (n : Nat)  (m : Nat) : r11_l1_1_1_1_1_1_1_1_0_1_0 call n  m = J11_l1_1_1_1_1_1_1_1_0_1_0 call n  m := by
  induction m with
  | zero => rfl
  | succ m ih =>
    funext w0 w4 w5 w6a w6l w6c w8 w9 w10 w60 w61 S
    rw [J11_l1_1_1_1_1_1_1_1_0_1_0_succ, a11_l1_1_1_1_1_1_1_1_0_1_0, h11_j1_1_1_1_1_1_1_1_1 call n , ih]
def J11 (call : CallA) (n : Nat) (x0 : Option Pos) (x1a : Option Pos) (x1l : Nat) (x1c : Cap) (S : AS) : Option (AV × AS) := b11_entry call n (J11_l1_1_1_1_1_1_1_1_0_1_0 call n  n) x0 x1a x1l x1c S
theorem run11 (o : Orc) (n : Nat) (args : List AV) (S : AS) (ho : o 11 args = none) : evF E o (n + 1) (.fn 11) args S = evC E (evF E o n) n 11 (E.at 11 []) 0 (enumT 0 args) S (retK E (E.fn 11)) := by
  rw [evF, ho]; kernel_rfl
theorem J11_eq (call : CallA) (n : Nat) (x0 : Option Pos) (x1a : Option Pos) (x1l : Nat) (x1c : Cap) (S : AS) : evC E call n 11 (E.at 11 []) 0 (enumT 0 [(.ptr x0), (.sl x1a x1l x1c)]) S (retK E (E.fn 11)) = J11 call n x0 x1a x1l x1c S := by
  rw [J11, a11_entry, h11_l1_1_1_1_1_1_1_1_0_1_0 call n  n]
theorem F11 {o : Orc} (n : Nat) (x0 : Option Pos) (x1a : Option Pos) (x1l : Nat) (x1c : Cap) (S : AS) (ho : ∀ args, o 11 args = none) : evF E o (n + 1) (.fn 11) [(.ptr x0), (.sl x1a x1l x1c)] S = J11 (evF E o n) n x0 x1a x1l x1c S := (run11 o n [(.ptr x0), (.sl x1a x1l x1c)] S (ho _)).trans (J11_eq _ _ x0 x1a x1l x1c S)
def b12_l1_1_0_1_0 (call : CallA) (n : Nat)  (l1_1_0_1_0 : Option Pos → Nat → Cap → Option Pos → Nat → Cap → Int → AS → Option (AV × AS)) (w0a : Option Pos) (w0l : Nat) (w0c : Cap) (w3a : Option Pos) (w3l : Nat) (w3c : Cap) (w4 : Int) (S : AS) : Option (AV × AS) :=
 cond (decide (w4 < ((w0l : Nat) : Int))) (
 drawA S 17 fun b1 S2 =>
 ixSl 2 w0a w0l w4 fun p3 =>
 ldI .i64 S2 p3.1 p3.2 fun v4 =>
 ixSl 2 w0a w0l w4 fun p5 =>
 ldL S2 p5.1 (p5.2 + 1) fun v6a v6l v6c =>
 layA S2 (b1 + 6) (.cells []) fun S7 =>
 appendA 1 1 S7 (some (.rw (b1 + 6), 0)) 0 (.ex 0) v6l (firstA S7 1 v6l (.sl v6a v6l v6c)) fun v8a v8l v8c S9 =>
 ldI .i64 S9 p3.1 p3.2 fun v10 =>
 cond (AV.beq (.int .i64 v10) (.int .i64 v4)) (
 layA S9 (b1 + 14) (.cells [(.int .i64 v4), (.sl v8a v8l v8c)]) fun S11 =>
 appendA 2 32 S11 w3a w3l w3c 1 (firstA S11 2 1 (.sl (some (.rw (b1 + 14), 0)) 1 (.ex 1))) fun v12a v12l v12c S13 =>
 l1_1_0_1_0 w0a w0l w0c v12a v12l v12c (IntKind.wrap .i64 (w4 + 1)) S13) none) (
 some ((.sl w3a w3l w3c), S))

def b12_entry (call : CallA) (n : Nat)  (l1_1_0_1_0 : Option Pos → Nat → Cap → Option Pos → Nat → Cap → Int → AS → Option (AV × AS)) (x0a : Option Pos) (x0l : Nat) (x0c : Cap) (S : AS) : Option (AV × AS) :=
 l1_1_0_1_0 x0a x0l x0c none 0 (.ex 0) 0 S

def r12_l1_1_0_1_0 (call : CallA) (n : Nat)  (m : Nat) (w0a : Option Pos) (w0l : Nat) (w0c : Cap) (w3a : Option Pos) (w3l : Nat) (w3c : Cap) (w4 : Int) (S : AS) : Option (AV × AS) := loopN (evC E call n 12 (E.at 12 [1, 1, 0, 1, 0, 0]) 0) [0, 3, 4] m [(0, (.sl w0a w0l w0c)), (3, (.sl w3a w3l w3c)), (4, (.int .i64 w4))] S (kBlk 0 (kSeq E call n 12 (E.at 12 [1, 1, 1]) 0 (retK E (E.fn 12))))
theorem a12_l1_1_0_1_0 (call : CallA) (n : Nat)  (m : Nat) (w0a : Option Pos) (w0l : Nat) (w0c : Cap) (w3a : Option Pos) (w3l : Nat) (w3c : Cap) (w4 : Int) (S : AS) : r12_l1_1_0_1_0 call n  (m + 1) w0a w0l w0c w3a w3l w3c w4 S = b12_l1_1_0_1_0 call n (r12_l1_1_0_1_0 call n  m) w0a w0l w0c w3a w3l w3c w4 S := by kernel_rfl
theorem a12_entry (call : CallA) (n : Nat) (x0a : Option Pos) (x0l : Nat) (x0c : Cap) (S : AS) : evC E call n 12 (E.at 12 []) 0 (enumT 0 [(.sl x0a x0l x0c)]) S (retK E (E.fn 12)) = b12_entry call n (r12_l1_1_0_1_0 call n  n) x0a x0l x0c S := by kernel_rfl
def J12_l1_1_0_1_0 (call : CallA) (n : Nat)  (m : Nat) : Option Pos → Nat → Cap → Option Pos → Nat → Cap → Int → AS → Option (AV × AS) := Nat.rec (motive := fun _ => Option Pos → Nat → Cap → Option Pos → Nat → Cap → Int → AS → Option (AV × AS)) (fun _ _ _ _ _ _ _ _ => none) (fun mK ih w0a w0l w0c w3a w3l w3c w4 S => b12_l1_1_0_1_0 call n ih w0a w0l w0c w3a w3l w3c w4 S) m
theorem J12_l1_1_0_1_0_succ (call : CallA) (n : Nat)  (m : Nat) (w0a : Option Pos) (w0l : Nat) (w0c : Cap) (w3a : Option Pos) (w3l : Nat) (w3c : Cap) (w4 : Int) (S : AS) : J12_l1_1_0_1_0 call n  (m + 1) w0a w0l w0c w3a w3l w3c w4 S = b12_l1_1_0_1_0 call n (J12_l1_1_0_1_0 call n  m) w0a w0l w0c w3a w3l w3c w4 S := rfl
theorem h12_l1_1_0_1_0 (call : CallA) (n : Nat)  (m : Nat) : r12_l1_1_0_1_0 call n  m = J12_l1_1_0_1_0 call n  m := by
  induction m with
  | zero => rfl
  | succ m ih =>
    funext w0a w0l w0c w3a w3l w3c w4 S
    rw [J12_l1_1_0_1_0_succ, a12_l1_1_0_1_0, ih]
def J12 (call : CallA) (n : Nat) (x0a : Option Pos) (x0l : Nat) (x0c : Cap) (S : AS) : Option (AV × AS) := b12_entry call n (J12_l1_1_0_1_0 call n  n) x0a x0l x0c S
theorem run12 (o : Orc) (n : Nat) (args : List AV) (S : AS) (ho : o 12 args = none) : evF E o (n + 1) (.fn 12) args S = evC E (evF E o n) n 12 (E.at 12 []) 0 (enumT 0 args) S (retK E (E.fn 12)) := by
  rw [evF, ho]; kernel_rfl
theorem J12_eq (call : CallA) (n : Nat) (x0a : Option Pos) (x0l : Nat) (x0c : Cap) (S : AS) : evC E call n 12 (E.at 12 []) 0 (enumT 0 [(.sl x0a x0l x0c)]) S (retK E (E.fn 12)) = J12 call n x0a x0l x0c S := by
  rw [J12, a12_entry, h12_l1_1_0_1_0 call n  n]
theorem F12 {o : Orc} (n : Nat) (x0a : Option Pos) (x0l : Nat) (x0c : Cap) (S : AS) (ho : ∀ args, o 12 args = none) : evF E o (n + 1) (.fn 12) [(.sl x0a x0l x0c)] S = J12 (evF E o n) n x0a x0l x0c S := (run12 o n [(.sl x0a x0l x0c)] S (ho _)).trans (J12_eq _ _ x0a x0l x0c S)
def b13_entry (call : CallA) (n : Nat)   (x0 : Int) (S : AS) : Option (AV × AS) :=
 some ((.int .i64 x0), S)

theorem a13_entry (call : CallA) (n : Nat) (x0 : Int) (S : AS) : evC E call n 13 (E.at 13 []) 0 (enumT 0 [(.int .i64 x0)]) S (retK E (E.fn 13)) = b13_entry call n  x0 S := by kernel_rfl
def J13 (call : CallA) (n : Nat) (x0 : Int) (S : AS) : Option (AV × AS) := b13_entry call n  x0 S
theorem run13 (o : Orc) (n : Nat) (args : List AV) (S : AS) (ho : o 13 args = none) : evF E o (n + 1) (.fn 13) args S = evC E (evF E o n) n 13 (E.at 13 []) 0 (enumT 0 args) S (retK E (E.fn 13)) := by
  rw [evF, ho]; kernel_rfl
theorem J13_eq (call : CallA) (n : Nat) (x0 : Int) (S : AS) : evC E call n 13 (E.at 13 []) 0 (enumT 0 [(.int .i64 x0)]) S (retK E (E.fn 13)) = J13 call n x0 S := by
  rw [J13, a13_entry]
theorem F13 {o : Orc} (n : Nat) (x0 : Int) (S : AS) (ho : ∀ args, o 13 args = none) : evF E o (n + 1) (.fn 13) [(.int .i64 x0)] S = J13 (evF E o n) n x0 S := (run13 o n [(.int .i64 x0)] S (ho _)).trans (J13_eq _ _ x0 S)
def b14_entry (call : CallA) (n : Nat)   (x0 : Option Pos) (S : AS) : Option (AV × AS) :=
 cond x0.isNone (
 some ((.int .i64 7), S)) (
 gO x0 fun p1 =>
 ldV S p1.1 p1.2 fun v2 =>
 invV E call v2 "Flush" [] S fun v4 S3 =>
 gIk .i64 v4 fun v5 =>
 cond (v5 == 0) (
 callI .u64 call 29 [(.ptr x0)] S3 fun v7 S6 =>
 gO x0 fun p8 =>
 S6.stn p8.1 (p8.2 + 10) [(.int .u64 v7)] fun S9 =>
 some ((.int .i64 v5), S9)) (
 some ((.int .i64 v5), S3)))

theorem a14_entry (call : CallA) (n : Nat) (x0 : Option Pos) (S : AS) : evC E call n 14 (E.at 14 []) 0 (enumT 0 [(.ptr x0)]) S (retK E (E.fn 14)) = b14_entry call n  x0 S := by kernel_rfl
def J14 (call : CallA) (n : Nat) (x0 : Option Pos) (S : AS) : Option (AV × AS) := b14_entry call n  x0 S
theorem run14 (o : Orc) (n : Nat) (args : List AV) (S : AS) (ho : o 14 args = none) : evF E o (n + 1) (.fn 14) args S = evC E (evF E o n) n 14 (E.at 14 []) 0 (enumT 0 args) S (retK E (E.fn 14)) := by
  rw [evF, ho]; kernel_rfl
theorem J14_eq (call : CallA) (n : Nat) (x0 : Option Pos) (S : AS) : evC E call n 14 (E.at 14 []) 0 (enumT 0 [(.ptr x0)]) S (retK E (E.fn 14)) = J14 call n x0 S := by
  rw [J14, a14_entry]
theorem F14 {o : Orc} (n : Nat) (x0 : Option Pos) (S : AS) (ho : ∀ args, o 14 args = none) : evF E o (n + 1) (.fn 14) [(.ptr x0)] S = J14 (evF E o n) n x0 S := (run14 o n [(.ptr x0)] S (ho _)).trans (J14_eq _ _ x0 S)
def b15_entry (call : CallA) (n : Nat)   (x0 : Option Pos) (S : AS) : Option (AV × AS) :=
 cond x0.isNone (
 some ((.int .u64 0), S)) (
 gO x0 fun p1 =>
 ldI .u64 S p1.1 (p1.2 + 3 + 3) fun v2 =>
 some ((.int .u64 v2), S))

theorem a15_entry (call : CallA) (n : Nat) (x0 : Option Pos) (S : AS) : evC E call n 15 (E.at 15 []) 0 (enumT 0 [(.ptr x0)]) S (retK E (E.fn 15)) = b15_entry call n  x0 S := by kernel_rfl
def J15 (call : CallA) (n : Nat) (x0 : Option Pos) (S : AS) : Option (AV × AS) := b15_entry call n  x0 S
theorem run15 (o : Orc) (n : Nat) (args : List AV) (S : AS) (ho : o 15 args = none) : evF E o (n + 1) (.fn 15) args S = evC E (evF E o n) n 15 (E.at 15 []) 0 (enumT 0 args) S (retK E (E.fn 15)) := by
  rw [evF, ho]; kernel_rfl
theorem J15_eq (call : CallA) (n : Nat) (x0 : Option Pos) (S : AS) : evC E call n 15 (E.at 15 []) 0 (enumT 0 [(.ptr x0)]) S (retK E (E.fn 15)) = J15 call n x0 S := by
  rw [J15, a15_entry]
theorem F15 {o : Orc} (n : Nat) (x0 : Option Pos) (S : AS) (ho : ∀ args, o 15 args = none) : evF E o (n + 1) (.fn 15) [(.ptr x0)] S = J15 (evF E o n) n x0 S := (run15 o n [(.ptr x0)] S (ho _)).trans (J15_eq _ _ x0 S)
end
end Go.Jn
