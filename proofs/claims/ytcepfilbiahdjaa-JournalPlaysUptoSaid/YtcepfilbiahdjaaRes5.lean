/- Plain readings of the functions, and that they are what the evaluator does: by program. -/
import Derived.Test.YtcepfilbiahdjaaGrRes
import Derived.Test.YtcepfilbiahdjaaENV
import Derived.KernelRfl
set_option maxRecDepth 100000
set_option linter.unusedVariables false
namespace Go.Jn
open Go.Gr
noncomputable section
def b61_lZAU (call : CallA) (n : Nat) (lZAV : OP → Int → AV → OP → Nat → Cap → OP → OP → OP → OP → Nat → Cap → Int → AS → RV) (w0 : OP) (w1 : Int) (w4 : AV) (w5a : OP) (w5l : Nat) (w5c : Cap) (w6 : OP) (S : AS) : RV :=
 callI .u64 call 65 [(.ptr w0)] S fun v7 S6 =>
 callT call 74 [(.ptr w0), (.int .u64 v7)] S6 fun v9 S8 =>
 atG 7 v9 0 fun g10 =>
 atB v9 1 fun v11 =>
 newA S8 (.cells [(.int .u64 0), (.int .u64 0), (.int .u64 0), (.int .u64 0), (.int .i64 0), (.int .i64 0), (.sl none 0 (.ex 0))]) fun b12 S13 =>
 ifO (g10.length = 7) <|
 S13.stn (.rw b12) 0 g10 fun S14 =>
 cond (!v11) (
 some ((.sl w5a w5l w5c), S14)) (
 ldI .i64 S14 (.rw b12) 4 fun v15 =>
 cond (v15 != 0) (
 some ((.sl w5a w5l w5c), S14)) (
 ldI .u64 S14 (.rw b12) 3 fun v16 =>
 callI .u64 call 48 [(.ptr w0)] S14 fun v18 S17 =>
 ldI .u64 S17 (.rw b12) 3 fun v19 =>
 cond (AV.beq (.int .u64 v19) (.int .u64 v16)) (
 cond (v16 != (IntKind.wrap .u64 (v18 + 1))) (
 some ((.sl w5a w5l w5c), S17)) (
 ldI .u64 S17 (.rw b12) 0 fun v20 =>
 cond (decide (v20 > w1)) (
 some ((.sl w5a w5l w5c), S17)) (
 ldI .i64 S17 (.rw b12) 5 fun v21 =>
 callI .i64 call 49 [(.ptr w0)] S17 fun v23 S22 =>
 ldI .i64 S22 (.rw b12) 5 fun v24 =>
 cond (AV.beq (.int .i64 v24) (.int .i64 v21)) (
 cond (decide (v21 > v23)) (
 some ((.sl w5a w5l w5c), S22)) (
 ldI .u64 S22 (.rw b12) 0 fun v25 =>
 ldI .u64 S22 (.rw b12) 1 fun v26 =>
 newA S22 (.cells [(.int .u64 0), (.int .u64 0)]) fun b27 S28 =>
 S28.stn (.rw b27) 0 [(.int .u64 v25), (.int .u64 v26)] fun S29 =>
 S29.ldn (.rw b27) 0 2 fun g30 =>
 gO w6 fun p31 =>
 S29.ldn p31.1 p31.2 2 fun g32 =>
 callB call 75 [(.agg g30), (.agg g32)] S29 fun v34 S33 =>
 cond (!v34) (
 some ((.sl w5a w5l w5c), S33)) (
 lZAV w0 w1 w4 w5a w5l w5c w6 (some ((.rw b12), 0)) (some ((.rw b27), 0)) none 0 (.ex 0) 0 S33))) none))) none))
def b61_lZAV (call : CallA) (n : Nat) (lZAV : OP → Int → AV → OP → Nat → Cap → OP → OP → OP → OP → Nat → Cap → Int → AS → RV) (jZAG : OP → Int → OP → Nat → Cap → OP → OP → OP → OP → Nat → Cap → AS → RV) (w0 : OP) (w1 : Int) (w4 : AV) (w5a : OP) (w5l : Nat) (w5c : Cap) (w6 : OP) (w7 : OP) (w9 : OP) (w10a : OP) (w10l : Nat) (w10c : Cap) (w11 : Int) (S : AS) : RV :=
 gO w7 fun p35 =>
 ldI .i64 S p35.1 (p35.2 + 5) fun v36 =>
 cond (decide (w11 < v36)) (
 callI .u64 call 65 [(.ptr w0)] S fun v38 S37 =>
 callT call 74 [(.ptr w0), (.int .u64 (IntKind.wrap .u64 (v38 + (IntKind.wrap .u64 w11))))] S37 fun v40 S39 =>
 atG 7 v40 0 fun g41 =>
 atB v40 1 fun v42 =>
 newA S39 (.cells [(.int .u64 0), (.int .u64 0), (.int .u64 0), (.int .u64 0), (.int .i64 0), (.int .i64 0), (.sl none 0 (.ex 0))]) fun b43 S44 =>
 ifO (g41.length = 7) <|
 S44.stn (.rw b43) 0 g41 fun S45 =>
 cond (!v42) (
 some ((.sl w5a w5l w5c), S45)) (
 ldI .u64 S45 (.rw b43) 0 fun v46 =>
 gO w7 fun p47 =>
 ldI .u64 S45 p47.1 p47.2 fun v48 =>
 cond (v46 != v48) (
 some ((.sl w5a w5l w5c), S45)) (
 ldI .u64 S45 (.rw b43) 1 fun v49 =>
 gO w7 fun p50 =>
 ldI .u64 S45 p50.1 (p50.2 + 1) fun v51 =>
 cond (v49 != v51) (
 some ((.sl w5a w5l w5c), S45)) (
 ldI .u64 S45 (.rw b43) 3 fun v52 =>
 gO w7 fun p53 =>
 ldI .u64 S45 p53.1 (p53.2 + 3) fun v54 =>
 cond (v52 != v54) (
 some ((.sl w5a w5l w5c), S45)) (
 ldI .i64 S45 (.rw b43) 5 fun v55 =>
 gO w7 fun p56 =>
 ldI .i64 S45 p56.1 (p56.2 + 5) fun v57 =>
 cond (v55 != v57) (
 some ((.sl w5a w5l w5c), S45)) (
 ldI .i64 S45 (.rw b43) 4 fun v58 =>
 cond (v58 != w11) (
 some ((.sl w5a w5l w5c), S45)) (
 ldL S45 (.rw b43) 6 fun v59a v59l v59c =>
 appendA 1 1 S45 w10a w10l w10c v59l (firstA S45 1 v59l (.sl v59a v59l v59c)) fun v60a v60l v60c S61 =>
 lZAV w0 w1 w4 w5a w5l w5c w6 w7 w9 v60a v60l v60c (IntKind.wrap .i64 (w11 + 1)) S61))))))) (
 jZAG w0 w1 w5a w5l w5c w6 w7 w9 w10a w10l w10c S)
def b61_jZAG (call : CallA) (n : Nat) (lZAU : OP → Int → AV → OP → Nat → Cap → OP → AS → RV) (w0 : OP) (w1 : Int) (w5a : OP) (w5l : Nat) (w5c : Cap) (w6 : OP) (w7 : OP) (w9 : OP) (w10a : OP) (w10l : Nat) (w10c : Cap) (S : AS) : RV :=
 callT call 76 [(.sl w10a w10l w10c)] S fun v63 S62 =>
 atL v63 0 fun v64a v64l v64c =>
 atI .i64 v63 1 fun v65 =>
 cond (v65 != 0) (
 some ((.sl w5a w5l w5c), S62)) (
 newA S62 (.cells [(.sl v64a v64l v64c)]) fun b66 S67 =>
 appendA 1 24 S67 w5a w5l w5c 1 (firstA S67 1 1 (.sl (some (.rw b66, 0)) 1 (.ex 1))) fun v68a v68l v68c S69 =>
 drawA S69 12 fun b70 S71 =>
 gO w0 fun p72 =>
 ldL S71 p72.1 (p72.2 + 8) fun v73a v73l v73c =>
 gO w7 fun p74 =>
 ldI .i64 S71 p74.1 (p74.2 + 5) fun v75 =>
 layA S71 (b70 + 7) (.cells [(.int .i64 v75)]) fun S76 =>
 appendA 1 8 S76 v73a v73l v73c 1 (firstA S76 1 1 (.sl (some (.rw (b70 + 7), 0)) 1 (.ex 1))) fun v77a v77l v77c S78 =>
 gO w0 fun p79 =>
 S78.stn p79.1 (p79.2 + 8) [(.sl v77a v77l v77c)] fun S80 =>
 drawA S80 11 fun b81 S82 =>
 gO w0 fun p83 =>
 ldL S82 p83.1 (p83.2 + 9) fun v84a v84l v84c =>
 gO w9 fun p85 =>
 S82.ldn p85.1 p85.2 2 fun g86 =>
 ifO (g86.length = 2) <|
 ifO (0 + g86.length ≤ ([(.int .u64 0), (.int .u64 0)] : List AV).length) <|
 layA S82 (b81 + 6) (.cells (splice [(.int .u64 0), (.int .u64 0)] 0 g86)) fun S88 =>
 appendA 2 16 S88 v84a v84l v84c 1 (firstA S88 2 1 (.sl (some (.rw (b81 + 6), 0)) 1 (.ex 1))) fun v89a v89l v89c S90 =>
 gO w0 fun p91 =>
 S90.stn p91.1 (p91.2 + 9) [(.sl v89a v89l v89c)] fun S92 =>
 gO w9 fun p93 =>
 S92.ldn p93.1 p93.2 2 fun g94 =>
 gO w6 fun p96 =>
 ifO (g94.length = 2) <|
 S92.stn p96.1 p96.2 g94 fun S95 =>
 lZAU w0 w1 .undef v68a v68l v68c w6 S95)
def b61_entry (call : CallA) (n : Nat) (lZAU : OP → Int → AV → OP → Nat → Cap → OP → AS → RV) (x0 : OP) (x1 : Int) (S : AS) : RV :=
 gO x0 fun p1 =>
 S.ldn p1.1 (p1.2 + 10) 2 fun g2 =>
 newA S (.cells [(.int .u64 0), (.int .u64 0)]) fun b3 S4 =>
 ifO (g2.length = 2) <|
 S4.stn (.rw b3) 0 g2 fun S5 =>
 lZAU x0 x1 (.sl none 0 (.ex 0)) none 0 (.ex 0) (some ((.rw b3), 0)) S5
def r61_lZAU (call : CallA) (n : Nat) (m : Nat) (w0 : OP) (w1 : Int) (w4 : AV) (w5a : OP) (w5l : Nat) (w5c : Cap) (w6 : OP) (S : AS) : RV := loopN (evC E call n 61 (E.at 61 [1, 1, 1, 0, 0]) 0) [0, 1, 4, 5, 6] m [(0, (.ptr w0)), (1, (.int .u64 w1)), (4, w4), (5, (.sl w5a w5l w5c)), (6, (.ptr w6))] S (kBlk 0 (retK E (E.fn 61)))
def r61_lZAV (call : CallA) (n : Nat) (m1_1_1_0 : Nat) (m : Nat) (w0 : OP) (w1 : Int) (w4 : AV) (w5a : OP) (w5l : Nat) (w5c : Cap) (w6 : OP) (w7 : OP) (w9 : OP) (w10a : OP) (w10l : Nat) (w10c : Cap) (w11 : Int) (S : AS) : RV := loopN (evC E call n 61 (E.at 61 [1, 1, 1, 0, 0, 0, 1, 1, 1, 1, 1, 0, 1, 0, 0]) 2) [0, 1, 4, 5, 6, 7, 9, 10, 11] m [(0, (.ptr w0)), (1, (.int .u64 w1)), (4, w4), (5, (.sl w5a w5l w5c)), (6, (.ptr w6)), (7, (.ptr w7)), (9, (.ptr w9)), (10, (.sl w10a w10l w10c)), (11, (.int .i64 w11))] S (kBlk 2 (kSeq E call n 61 (E.at 61 [1, 1, 1, 0, 0, 0, 1, 1, 1, 1, 1, 1]) 1 (kBlk 1 (kLp (evC E call n 61 (E.at 61 [1, 1, 1, 0, 0]) 0) [0, 1, 4, 5, 6] m1_1_1_0 (kBlk 0 (retK E (E.fn 61)))))))
def r61_jZAG (call : CallA) (n : Nat) (m1_1_1_0 : Nat) (w0 : OP) (w1 : Int) (w5a : OP) (w5l : Nat) (w5c : Cap) (w6 : OP) (w7 : OP) (w9 : OP) (w10a : OP) (w10l : Nat) (w10c : Cap) (S : AS) : RV := evC E call n 61 (E.at 61 [1, 1, 1, 0, 0, 0, 1, 1, 1, 1, 1, 1]) 1 [(0, (.ptr w0)), (1, (.int .u64 w1)), (5, (.sl w5a w5l w5c)), (6, (.ptr w6)), (7, (.ptr w7)), (9, (.ptr w9)), (10, (.sl w10a w10l w10c))] S (kBlk 1 (kLp (evC E call n 61 (E.at 61 [1, 1, 1, 0, 0]) 0) [0, 1, 4, 5, 6] m1_1_1_0 (kBlk 0 (retK E (E.fn 61)))))
theorem a61_lZAU (call : CallA) (n : Nat) (m : Nat) (w0 : OP) (w1 : Int) (w4 : AV) (w5a : OP) (w5l : Nat) (w5c : Cap) (w6 : OP) (S : AS) : r61_lZAU call n (m + 1) w0 w1 w4 w5a w5l w5c w6 S = b61_lZAU call n (r61_lZAV call n m n) w0 w1 w4 w5a w5l w5c w6 S := by kernel_rfl
theorem a61_lZAV (call : CallA) (n : Nat) (m1_1_1_0 : Nat) (m : Nat) (w0 : OP) (w1 : Int) (w4 : AV) (w5a : OP) (w5l : Nat) (w5c : Cap) (w6 : OP) (w7 : OP) (w9 : OP) (w10a : OP) (w10l : Nat) (w10c : Cap) (w11 : Int) (S : AS) : r61_lZAV call n m1_1_1_0 (m + 1) w0 w1 w4 w5a w5l w5c w6 w7 w9 w10a w10l w10c w11 S = b61_lZAV call n (r61_lZAV call n m1_1_1_0 m) (r61_jZAG call n m1_1_1_0) w0 w1 w4 w5a w5l w5c w6 w7 w9 w10a w10l w10c w11 S := by kernel_rfl
theorem a61_jZAG (call : CallA) (n : Nat) (m1_1_1_0 : Nat) (w0 : OP) (w1 : Int) (w5a : OP) (w5l : Nat) (w5c : Cap) (w6 : OP) (w7 : OP) (w9 : OP) (w10a : OP) (w10l : Nat) (w10c : Cap) (S : AS) : r61_jZAG call n m1_1_1_0 w0 w1 w5a w5l w5c w6 w7 w9 w10a w10l w10c S = b61_jZAG call n (r61_lZAU call n m1_1_1_0) w0 w1 w5a w5l w5c w6 w7 w9 w10a w10l w10c S := by kernel_rfl
theorem a61_entry (call : CallA) (n : Nat) (x0 : OP) (x1 : Int) (S : AS) : evC E call n 61 (E.at 61 []) 0 (enumT 0 [(.ptr x0), (.int .u64 x1)]) S (retK E (E.fn 61)) = b61_entry call n (r61_lZAU call n n) x0 x1 S := by kernel_rfl
def J61_jZAG (call : CallA) (n : Nat) (n1_1_1_0 : OP → Int → AV → OP → Nat → Cap → OP → AS → RV) (w0 : OP) (w1 : Int) (w5a : OP) (w5l : Nat) (w5c : Cap) (w6 : OP) (w7 : OP) (w9 : OP) (w10a : OP) (w10l : Nat) (w10c : Cap) (S : AS) : RV := b61_jZAG call n n1_1_1_0 w0 w1 w5a w5l w5c w6 w7 w9 w10a w10l w10c S
theorem h61_jZAG (call : CallA) (n : Nat) (m1_1_1_0 : Nat) : r61_jZAG call n m1_1_1_0 = J61_jZAG call n (r61_lZAU call n m1_1_1_0) := by
 funext w0 w1 w5a w5l w5c w6 w7 w9 w10a w10l w10c S
 rw [J61_jZAG, a61_jZAG]
def J61_lZAV (call : CallA) (n : Nat) (n1_1_1_0 : OP → Int → AV → OP → Nat → Cap → OP → AS → RV) (m : Nat) : OP → Int → AV → OP → Nat → Cap → OP → OP → OP → OP → Nat → Cap → Int → AS → RV := Nat.rec (motive := fun _ => OP → Int → AV → OP → Nat → Cap → OP → OP → OP → OP → Nat → Cap → Int → AS → RV) (fun _ _ _ _ _ _ _ _ _ _ _ _ _ _ => none) (fun mK ih w0 w1 w4 w5a w5l w5c w6 w7 w9 w10a w10l w10c w11 S => b61_lZAV call n ih (J61_jZAG call n n1_1_1_0) w0 w1 w4 w5a w5l w5c w6 w7 w9 w10a w10l w10c w11 S) m
theorem J61_lZAV_succ (call : CallA) (n : Nat) (n1_1_1_0 : OP → Int → AV → OP → Nat → Cap → OP → AS → RV) (m : Nat) (w0 : OP) (w1 : Int) (w4 : AV) (w5a : OP) (w5l : Nat) (w5c : Cap) (w6 : OP) (w7 : OP) (w9 : OP) (w10a : OP) (w10l : Nat) (w10c : Cap) (w11 : Int) (S : AS) : J61_lZAV call n n1_1_1_0 (m + 1) w0 w1 w4 w5a w5l w5c w6 w7 w9 w10a w10l w10c w11 S = b61_lZAV call n (J61_lZAV call n n1_1_1_0 m) (J61_jZAG call n n1_1_1_0) w0 w1 w4 w5a w5l w5c w6 w7 w9 w10a w10l w10c w11 S := rfl
theorem h61_lZAV (call : CallA) (n : Nat) (m1_1_1_0 : Nat) (m : Nat) : r61_lZAV call n m1_1_1_0 m = J61_lZAV call n (r61_lZAU call n m1_1_1_0) m := by
 induction m with
 | zero => rfl
 | succ m ih =>
  funext w0 w1 w4 w5a w5l w5c w6 w7 w9 w10a w10l w10c w11 S
  rw [J61_lZAV_succ, a61_lZAV, h61_jZAG call n m1_1_1_0, ih]
def J61_lZAU (call : CallA) (n : Nat) (m : Nat) : OP → Int → AV → OP → Nat → Cap → OP → AS → RV := Nat.rec (motive := fun _ => OP → Int → AV → OP → Nat → Cap → OP → AS → RV) (fun _ _ _ _ _ _ _ _ => none) (fun mK ih w0 w1 w4 w5a w5l w5c w6 S => b61_lZAU call n (J61_lZAV call n ih n) w0 w1 w4 w5a w5l w5c w6 S) m
theorem J61_lZAU_succ (call : CallA) (n : Nat) (m : Nat) (w0 : OP) (w1 : Int) (w4 : AV) (w5a : OP) (w5l : Nat) (w5c : Cap) (w6 : OP) (S : AS) : J61_lZAU call n (m + 1) w0 w1 w4 w5a w5l w5c w6 S = b61_lZAU call n (J61_lZAV call n (J61_lZAU call n m) n) w0 w1 w4 w5a w5l w5c w6 S := rfl
theorem h61_lZAU (call : CallA) (n : Nat) (m : Nat) : r61_lZAU call n m = J61_lZAU call n m := by
 induction m with
 | zero => rfl
 | succ m ih =>
  funext w0 w1 w4 w5a w5l w5c w6 S
  rw [J61_lZAU_succ, a61_lZAU, h61_lZAV call n m n, ih]
def J61 (call : CallA) (n : Nat) (x0 : OP) (x1 : Int) (S : AS) : RV := b61_entry call n (J61_lZAU call n n) x0 x1 S
theorem run61 (o : Orc) (n : Nat) (args : List AV) (S : AS) (ho : o 61 args = none) : evF E o (n + 1) (.fn 61) args S = evC E (evF E o n) n 61 (E.at 61 []) 0 (enumT 0 args) S (retK E (E.fn 61)) := by
 rw [evF, ho]; kernel_rfl
theorem J61_eq (call : CallA) (n : Nat) (x0 : OP) (x1 : Int) (S : AS) : evC E call n 61 (E.at 61 []) 0 (enumT 0 [(.ptr x0), (.int .u64 x1)]) S (retK E (E.fn 61)) = J61 call n x0 x1 S := by
 rw [J61, a61_entry, h61_lZAU call n n]
theorem F61 {o : Orc} (n : Nat) (x0 : OP) (x1 : Int) (S : AS) (ho : ∀ args, o 61 args = none) : evF E o (n + 1) (.fn 61) [(.ptr x0), (.int .u64 x1)] S = J61 (evF E o n) n x0 x1 S := (run61 o n [(.ptr x0), (.int .u64 x1)] S (ho _)).trans (J61_eq _ _ x0 x1 S)
def b62_jZAM (call : CallA) (n : Nat)  (w0 : OP) (w5a : OP) (w5l : Nat) (w5c : Cap) (w7 : Int) (S : AS) : RV :=
 gO w0 fun p24 =>
 ldP S p24.1 p24.2 fun v25 =>
 callI .i64 call 43 [(.ptr v25), (.int .i64 w7), (.sl w5a w5l w5c)] S fun v27 S26 =>
 cond (v27 != 0) (
 some ((.int .i64 v27), S26)) (
 gO w0 fun p28 =>
 ldP S26 p28.1 p28.2 fun v29 =>
 callI .i64 call 44 [(.ptr v29)] S26 fun v31 S30 =>
 some ((.int .i64 v31), S30))
def b62_entry (call : CallA) (n : Nat) (jZAM : OP → OP → Nat → Cap → Int → AS → RV) (x0 : OP) (x1 : List AV) (S : AS) : RV :=
 ifO (x1.length = 6) <|
 newA S (.cells x1) fun b1 S2 =>
 gO x0 fun p3 =>
 ldI .u64 S2 p3.1 (p3.2 + 3) fun v4 =>
 cond (decide (v4 ≥ 4611686018427387904)) (
 some ((.int .i64 5), S2)) (
 ldI .u64 S2 (.rw b1) 2 fun v5 =>
 cond (decide (v5 > 4611686018427387904)) (
 some ((.int .i64 5), S2)) (
 gO x0 fun p6 =>
 ldI .u64 S2 p6.1 (p6.2 + 3) fun v7 =>
 gO x0 fun p8 =>
 S2.stn p8.1 (p8.2 + 3) [(.int .u64 (IntKind.wrap .u64 (v7 + 1)))] fun S9 =>
 gO x0 fun p10 =>
 ldI .u64 S9 p10.1 (p10.2 + 3) fun v11 =>
 S9.stn (.rw b1) 0 [(.int .u64 v11)] fun S12 =>
 S12.ldn (.rw b1) 0 6 fun g13 =>
 callT call 45 [(.agg g13)] S12 fun v15 S14 =>
 atL v15 0 fun v16a v16l v16c =>
 atI .i64 v15 1 fun v17 =>
 gO x0 fun p18 =>
 ldI .i64 S14 p18.1 (p18.2 + 1) fun v19 =>
 gO x0 fun p20 =>
 ldI .u64 S14 p20.1 (p20.2 + 3) fun v21 =>
 cond ((Int.tmod v21 2) == 1) (
 gO x0 fun p22 =>
 ldI .i64 S14 p22.1 (p22.2 + 1) fun v23 =>
 jZAM x0 v16a v16l v16c v23 S14) (
 jZAM x0 v16a v16l v16c (IntKind.wrap .i64 (v19 + 1)) S14)))
def r62_jZAM (call : CallA) (n : Nat) (w0 : OP) (w5a : OP) (w5l : Nat) (w5c : Cap) (w7 : Int) (S : AS) : RV := evC E call n 62 (E.at 62 [1, 1, 1, 1, 1, 1, 1]) 0 [(0, (.ptr w0)), (5, (.sl w5a w5l w5c)), (7, (.int .i64 w7))] S (retK E (E.fn 62))
theorem a62_jZAM (call : CallA) (n : Nat) (w0 : OP) (w5a : OP) (w5l : Nat) (w5c : Cap) (w7 : Int) (S : AS) : r62_jZAM call n w0 w5a w5l w5c w7 S = b62_jZAM call n w0 w5a w5l w5c w7 S := by kernel_rfl
theorem a62_entry (call : CallA) (n : Nat) (x0 : OP) (x1 : List AV) (S : AS) : evC E call n 62 (E.at 62 []) 0 (enumT 0 [(.ptr x0), (.agg x1)]) S (retK E (E.fn 62)) = b62_entry call n (r62_jZAM call n ) x0 x1 S := by kernel_rfl
def J62_jZAM (call : CallA) (n : Nat) (w0 : OP) (w5a : OP) (w5l : Nat) (w5c : Cap) (w7 : Int) (S : AS) : RV := b62_jZAM call n w0 w5a w5l w5c w7 S
theorem h62_jZAM (call : CallA) (n : Nat) : r62_jZAM call n = J62_jZAM call n := by
 funext w0 w5a w5l w5c w7 S
 rw [J62_jZAM, a62_jZAM]
def J62 (call : CallA) (n : Nat) (x0 : OP) (x1 : List AV) (S : AS) : RV := b62_entry call n (J62_jZAM call n ) x0 x1 S
theorem run62 (o : Orc) (n : Nat) (args : List AV) (S : AS) (ho : o 62 args = none) : evF E o (n + 1) (.fn 62) args S = evC E (evF E o n) n 62 (E.at 62 []) 0 (enumT 0 args) S (retK E (E.fn 62)) := by
 rw [evF, ho]; kernel_rfl
theorem J62_eq (call : CallA) (n : Nat) (x0 : OP) (x1 : List AV) (S : AS) : evC E call n 62 (E.at 62 []) 0 (enumT 0 [(.ptr x0), (.agg x1)]) S (retK E (E.fn 62)) = J62 call n x0 x1 S := by
 rw [J62, a62_entry, h62_jZAM call n ]
theorem F62 {o : Orc} (n : Nat) (x0 : OP) (x1 : List AV) (S : AS) (ho : ∀ args, o 62 args = none) : evF E o (n + 1) (.fn 62) [(.ptr x0), (.agg x1)] S = J62 (evF E o n) n x0 x1 S := (run62 o n [(.ptr x0), (.agg x1)] S (ho _)).trans (J62_eq _ _ x0 x1 S)
def b63_lZAS (call : CallA) (n : Nat) (lZAS : OP → Int → Int → AS → RV) (w0 : OP) (w3 : Int) (w4 : Int) (S : AS) : RV :=
 gO w0 fun p1 =>
 ldL S p1.1 (p1.2 + 8) fun v2a v2l v2c =>
 cond (decide (w4 < ((v2l : Nat) : Int))) (
 gO w0 fun p3 =>
 ldL S p3.1 (p3.2 + 8) fun v4a v4l v4c =>
 ixSl 1 v4a v4l w4 fun p5 =>
 ldI .i64 S p5.1 p5.2 fun v6 =>
 lZAS w0 (IntKind.wrap .i64 (w3 + v6)) (IntKind.wrap .i64 (w4 + 1)) S) (
 some ((.int .i64 w3), S))
def b63_entry (call : CallA) (n : Nat) (lZAS : OP → Int → Int → AS → RV) (x0 : OP) (S : AS) : RV :=
 lZAS x0 0 0 S
def r63_lZAS (call : CallA) (n : Nat) (m : Nat) (w0 : OP) (w3 : Int) (w4 : Int) (S : AS) : RV := loopN (evC E call n 63 (E.at 63 [1, 1, 0, 1, 0, 0]) 0) [0, 3, 4] m [(0, (.ptr w0)), (3, (.int .i64 w3)), (4, (.int .i64 w4))] S (kBlk 0 (kSeq E call n 63 (E.at 63 [1, 1, 1]) 0 (retK E (E.fn 63))))
theorem a63_lZAS (call : CallA) (n : Nat) (m : Nat) (w0 : OP) (w3 : Int) (w4 : Int) (S : AS) : r63_lZAS call n (m + 1) w0 w3 w4 S = b63_lZAS call n (r63_lZAS call n m) w0 w3 w4 S := by kernel_rfl
theorem a63_entry (call : CallA) (n : Nat) (x0 : OP) (S : AS) : evC E call n 63 (E.at 63 []) 0 (enumT 0 [(.ptr x0)]) S (retK E (E.fn 63)) = b63_entry call n (r63_lZAS call n n) x0 S := by kernel_rfl
def J63_lZAS (call : CallA) (n : Nat) (m : Nat) : OP → Int → Int → AS → RV := Nat.rec (motive := fun _ => OP → Int → Int → AS → RV) (fun _ _ _ _ => none) (fun mK ih w0 w3 w4 S => b63_lZAS call n ih w0 w3 w4 S) m
theorem J63_lZAS_succ (call : CallA) (n : Nat) (m : Nat) (w0 : OP) (w3 : Int) (w4 : Int) (S : AS) : J63_lZAS call n (m + 1) w0 w3 w4 S = b63_lZAS call n (J63_lZAS call n m) w0 w3 w4 S := rfl
theorem h63_lZAS (call : CallA) (n : Nat) (m : Nat) : r63_lZAS call n m = J63_lZAS call n m := by
 induction m with
 | zero => rfl
 | succ m ih =>
  funext w0 w3 w4 S
  rw [J63_lZAS_succ, a63_lZAS, ih]
def J63 (call : CallA) (n : Nat) (x0 : OP) (S : AS) : RV := b63_entry call n (J63_lZAS call n n) x0 S
theorem run63 (o : Orc) (n : Nat) (args : List AV) (S : AS) (ho : o 63 args = none) : evF E o (n + 1) (.fn 63) args S = evC E (evF E o n) n 63 (E.at 63 []) 0 (enumT 0 args) S (retK E (E.fn 63)) := by
 rw [evF, ho]; kernel_rfl
theorem J63_eq (call : CallA) (n : Nat) (x0 : OP) (S : AS) : evC E call n 63 (E.at 63 []) 0 (enumT 0 [(.ptr x0)]) S (retK E (E.fn 63)) = J63 call n x0 S := by
 rw [J63, a63_entry, h63_lZAS call n n]
theorem F63 {o : Orc} (n : Nat) (x0 : OP) (S : AS) (ho : ∀ args, o 63 args = none) : evF E o (n + 1) (.fn 63) [(.ptr x0)] S = J63 (evF E o n) n x0 S := (run63 o n [(.ptr x0)] S (ho _)).trans (J63_eq _ _ x0 S)
def b64_entry (call : CallA) (n : Nat)  (x0 : Int) (S : AS) : RV :=
 cond (decide (x0 < 1)) (
 some ((.int .i64 0), S)) (
 cond (decide (x0 > 64)) (
 some ((.int .i64 0), S)) (
 some ((.int .i64 (IntKind.wrap .i64 (Int.tdiv (IntKind.wrap .i64 ((IntKind.wrap .i64 ((IntKind.wrap .i64 (4 + (IntKind.wrap .i64 (388 * x0)))) + 336)) - 1)) 336))), S)))
def J64 (call : CallA) (n : Nat) (x0 : Int) (S : AS) : RV := b64_entry call n x0 S
theorem run64 (o : Orc) (n : Nat) (args : List AV) (S : AS) (ho : o 64 args = none) : evF E o (n + 1) (.fn 64) args S = evC E (evF E o n) n 64 (E.at 64 []) 0 (enumT 0 args) S (retK E (E.fn 64)) := by
 rw [evF, ho]; kernel_rfl
theorem J64_eq (call : CallA) (n : Nat) (x0 : Int) (S : AS) : evC E call n 64 (E.at 64 []) 0 (enumT 0 [(.int .i64 x0)]) S (retK E (E.fn 64)) = J64 call n x0 S := by kernel_rfl
theorem F64 {o : Orc} (n : Nat) (x0 : Int) (S : AS) (ho : ∀ args, o 64 args = none) : evF E o (n + 1) (.fn 64) [(.int .i64 x0)] S = J64 (evF E o n) n x0 S := (run64 o n [(.int .i64 x0)] S (ho _)).trans (J64_eq _ _ x0 S)
def b65_entry (call : CallA) (n : Nat)  (x0 : OP) (S : AS) : RV :=
 gO x0 fun p1 =>
 ldI .u64 S p1.1 (p1.2 + 6) fun v2 =>
 callI .i64 call 63 [(.ptr x0)] S fun v4 S3 =>
 ldI .u64 S3 p1.1 (p1.2 + 6) fun v5 =>
 cond (AV.beq (.int .u64 v5) (.int .u64 v2)) (
 some ((.int .u64 (IntKind.wrap .u64 (v2 + (IntKind.wrap .u64 v4)))), S3)) none
def J65 (call : CallA) (n : Nat) (x0 : OP) (S : AS) : RV := b65_entry call n x0 S
theorem run65 (o : Orc) (n : Nat) (args : List AV) (S : AS) (ho : o 65 args = none) : evF E o (n + 1) (.fn 65) args S = evC E (evF E o n) n 65 (E.at 65 []) 0 (enumT 0 args) S (retK E (E.fn 65)) := by
 rw [evF, ho]; kernel_rfl
theorem J65_eq (call : CallA) (n : Nat) (x0 : OP) (S : AS) : evC E call n 65 (E.at 65 []) 0 (enumT 0 [(.ptr x0)]) S (retK E (E.fn 65)) = J65 call n x0 S := by kernel_rfl
theorem F65 {o : Orc} (n : Nat) (x0 : OP) (S : AS) (ho : ∀ args, o 65 args = none) : evF E o (n + 1) (.fn 65) [(.ptr x0)] S = J65 (evF E o n) n x0 S := (run65 o n [(.ptr x0)] S (ho _)).trans (J65_eq _ _ x0 S)
def b66_entry (call : CallA) (n : Nat)  (x0 : List AV) (S : AS) : RV :=
 ifO (x0.length = 7) <|
 newA S (.cells x0) fun b1 S2 =>
 ldI .u64 S2 (.rw b1) 0 fun v3 =>
 cond (v3 == 0) (
 some (.tup [(.sl none 0 (.ex 0)), (.int .i64 81)], S2)) (
 ldI .u64 S2 (.rw b1) 1 fun v4 =>
 cond (v4 == 0) (
 some (.tup [(.sl none 0 (.ex 0)), (.int .i64 81)], S2)) (
 ldI .u64 S2 (.rw b1) 3 fun v5 =>
 cond (v5 == 0) (
 some (.tup [(.sl none 0 (.ex 0)), (.int .i64 81)], S2)) (
 ldI .u64 S2 (.rw b1) 0 fun v6 =>
 cond (decide (v6 > 4611686018427387904)) (
 some (.tup [(.sl none 0 (.ex 0)), (.int .i64 81)], S2)) (
 ldI .u64 S2 (.rw b1) 1 fun v7 =>
 cond (decide (v7 > 4611686018427387904)) (
 some (.tup [(.sl none 0 (.ex 0)), (.int .i64 81)], S2)) (
 ldI .u64 S2 (.rw b1) 3 fun v8 =>
 cond (decide (v8 > 4611686018427387904)) (
 some (.tup [(.sl none 0 (.ex 0)), (.int .i64 81)], S2)) (
 ldI .u64 S2 (.rw b1) 2 fun v9 =>
 cond (decide (v9 > 4611686018427387904)) (
 some (.tup [(.sl none 0 (.ex 0)), (.int .i64 81)], S2)) (
 ldI .i64 S2 (.rw b1) 5 fun v10 =>
 cond (decide (v10 < 1)) (
 some (.tup [(.sl none 0 (.ex 0)), (.int .i64 81)], S2)) (
 ldI .i64 S2 (.rw b1) 5 fun v11 =>
 cond (decide (v11 > 100)) (
 some (.tup [(.sl none 0 (.ex 0)), (.int .i64 81)], S2)) (
 ldI .i64 S2 (.rw b1) 4 fun v12 =>
 cond (decide (v12 < 0)) (
 some (.tup [(.sl none 0 (.ex 0)), (.int .i64 81)], S2)) (
 ldI .i64 S2 (.rw b1) 4 fun v13 =>
 ldI .i64 S2 (.rw b1) 5 fun v14 =>
 cond (decide (v13 ≥ v14)) (
 some (.tup [(.sl none 0 (.ex 0)), (.int .i64 81)], S2)) (
 ldL S2 (.rw b1) 6 fun v15a v15l v15c =>
 cond (decide (((v15l : Nat) : Int) < 1)) (
 some (.tup [(.sl none 0 (.ex 0)), (.int .i64 81)], S2)) (
 ldL S2 (.rw b1) 6 fun v16a v16l v16c =>
 cond (decide (((v16l : Nat) : Int) > 336)) (
 some (.tup [(.sl none 0 (.ex 0)), (.int .i64 81)], S2)) (
 drawA S2 9 fun b17 S18 =>
 layA S18 (b17 + 0) (.cells [(.int .u8 74), (.int .u8 76), (.int .u8 79), (.int .u8 71)]) fun S19 =>
 convLL S19 (some (.rw (b17 + 0), 0)) 4 (.ex 4) fun v21a v21l v21c S20 =>
 ldI .u64 S20 (.rw b1) 0 fun v22 =>
 ldI .u64 S18 (.rw b1) 0 fun v23 =>
 cond (AV.beq (.int .u64 v23) (.int .u64 v22)) (
 callL call 32 [(.sl v21a v21l v21c), (.int .u64 v22), (.int .i64 8)] S20 fun v25a v25l v25c S24 =>
 ldI .u64 S24 (.rw b1) 1 fun v26 =>
 ldI .u64 S20 (.rw b1) 1 fun v27 =>
 cond (AV.beq (.int .u64 v27) (.int .u64 v26)) (
 ldI .u64 S18 (.rw b1) 1 fun v28 =>
 cond (AV.beq (.int .u64 v28) (.int .u64 v26)) (
 callL call 32 [(.sl v25a v25l v25c), (.int .u64 v26), (.int .i64 8)] S24 fun v30a v30l v30c S29 =>
 ldI .u64 S29 (.rw b1) 2 fun v31 =>
 callL call 32 [(.sl v30a v30l v30c), (.int .u64 v31), (.int .i64 8)] S29 fun v33a v33l v33c S32 =>
 ldI .u64 S32 (.rw b1) 3 fun v34 =>
 ldI .u64 S29 (.rw b1) 3 fun v35 =>
 cond (AV.beq (.int .u64 v35) (.int .u64 v34)) (
 callL call 32 [(.sl v33a v33l v33c), (.int .u64 v34), (.int .i64 8)] S32 fun v37a v37l v37c S36 =>
 ldI .i64 S36 (.rw b1) 4 fun v38 =>
 callL call 32 [(.sl v37a v37l v37c), (.int .u64 (IntKind.wrap .u64 v38)), (.int .i64 2)] S36 fun v40a v40l v40c S39 =>
 ldI .i64 S39 (.rw b1) 5 fun v41 =>
 ldI .i64 S36 (.rw b1) 5 fun v42 =>
 cond (AV.beq (.int .i64 v42) (.int .i64 v41)) (
 callL call 32 [(.sl v40a v40l v40c), (.int .u64 (IntKind.wrap .u64 v41)), (.int .i64 2)] S39 fun v44a v44l v44c S43 =>
 ldL S43 (.rw b1) 6 fun v45a v45l v45c =>
 ldL S39 (.rw b1) 6 fun v46a v46l v46c =>
 cond (AV.beq (.sl v46a v46l v46c) (.sl v45a v45l v45c)) (
 ldL S36 (.rw b1) 6 fun v47a v47l v47c =>
 cond (AV.beq (.sl v47a v47l v47c) (.sl v45a v45l v45c)) (
 cond (AV.beq (.int .i64 ((v45l : Nat) : Int)) (.int .i64 ((v45l : Nat) : Int))) (
 cond (AV.beq (.int .i64 ((v45l : Nat) : Int)) (.int .i64 ((v45l : Nat) : Int))) (
 callL call 32 [(.sl v44a v44l v44c), (.int .u64 (IntKind.wrap .u64 ((v45l : Nat) : Int))), (.int .i64 2)] S43 fun v49a v49l v49c S48 =>
 appendZA 1 1 [(.int .u8 0)] S48 v49a v49l v49c 6 fun v50a v50l v50c S51 =>
 ldL S51 (.rw b1) 6 fun v52a v52l v52c =>
 ldL S48 (.rw b1) 6 fun v53a v53l v53c =>
 cond (AV.beq (.sl v53a v53l v53c) (.sl v52a v52l v52c)) (
 appendA 1 1 S51 v50a v50l v50c v52l (firstA S51 1 v52l (.sl v52a v52l v52c)) fun v54a v54l v54c S55 =>
 callL call 58 [(.sl v54a v54l v54c)] S55 fun v57a v57l v57c S56 =>
 some (.tup [(.sl v57a v57l v57c), (.int .i64 0)], S56)) none) none) none) none) none) none) none) none) none) none)))))))))))))
def J66 (call : CallA) (n : Nat) (x0 : List AV) (S : AS) : RV := b66_entry call n x0 S
theorem run66 (o : Orc) (n : Nat) (args : List AV) (S : AS) (ho : o 66 args = none) : evF E o (n + 1) (.fn 66) args S = evC E (evF E o n) n 66 (E.at 66 []) 0 (enumT 0 args) S (retK E (E.fn 66)) := by
 rw [evF, ho]; kernel_rfl
theorem J66_eq (call : CallA) (n : Nat) (x0 : List AV) (S : AS) : evC E call n 66 (E.at 66 []) 0 (enumT 0 [(.agg x0)]) S (retK E (E.fn 66)) = J66 call n x0 S := by kernel_rfl
theorem F66 {o : Orc} (n : Nat) (x0 : List AV) (S : AS) (ho : ∀ args, o 66 args = none) : evF E o (n + 1) (.fn 66) [(.agg x0)] S = J66 (evF E o n) n x0 S := (run66 o n [(.agg x0)] S (ho _)).trans (J66_eq _ _ x0 S)
def b67_entry (call : CallA) (n : Nat)  (x0 : OP) (x1 : Int) (S : AS) : RV :=
 gO x0 fun p1 =>
 ldI .i64 S p1.1 (p1.2 + 1) fun v2 =>
 gO x0 fun p3 =>
 ldI .i64 S p3.1 (p3.2 + 2) fun v4 =>
 nz (IntKind.wrap .u64 (IntKind.wrap .i64 (v4 - 2))) <|
 some ((.int .i64 (IntKind.wrap .i64 ((IntKind.wrap .i64 (v2 + 2)) + (IntKind.wrap .i64 (Int.tmod x1 (IntKind.wrap .u64 (IntKind.wrap .i64 (v4 - 2)))))))), S)
def J67 (call : CallA) (n : Nat) (x0 : OP) (x1 : Int) (S : AS) : RV := b67_entry call n x0 x1 S
theorem run67 (o : Orc) (n : Nat) (args : List AV) (S : AS) (ho : o 67 args = none) : evF E o (n + 1) (.fn 67) args S = evC E (evF E o n) n 67 (E.at 67 []) 0 (enumT 0 args) S (retK E (E.fn 67)) := by
 rw [evF, ho]; kernel_rfl
theorem J67_eq (call : CallA) (n : Nat) (x0 : OP) (x1 : Int) (S : AS) : evC E call n 67 (E.at 67 []) 0 (enumT 0 [(.ptr x0), (.int .u64 x1)]) S (retK E (E.fn 67)) = J67 call n x0 x1 S := by kernel_rfl
theorem F67 {o : Orc} (n : Nat) (x0 : OP) (x1 : Int) (S : AS) (ho : ∀ args, o 67 args = none) : evF E o (n + 1) (.fn 67) [(.ptr x0), (.int .u64 x1)] S = J67 (evF E o n) n x0 x1 S := (run67 o n [(.ptr x0), (.int .u64 x1)] S (ho _)).trans (J67_eq _ _ x0 x1 S)
def b68_lZAW (call : CallA) (n : Nat) (lZAW : OP → Nat → Cap → OP → OP → Int → AS → RV) (jZAJ : OP → Nat → Cap → OP → OP → AS → RV) (w0a : OP) (w0l : Nat) (w0c : Cap) (w2 : OP) (w4 : OP) (w13 : Int) (S : AS) : RV :=
 cond (decide (w13 < 6)) (
 slSl 1 w0a w0l w0c (some (IntKind.wrap .i64 (4 + (IntKind.wrap .i64 (8 * w13))))) (some (IntKind.wrap .i64 (12 + (IntKind.wrap .i64 (8 * w13))))) none fun v7a v7l v7c =>
 callI .u64 call 77 [(.sl v7a v7l v7c)] S fun v9 S8 =>
 gO w4 fun p11 =>
 ixArr 1 p11 6 w13 fun p10 =>
 S8.stn p10.1 p10.2 [(.int .u64 v9)] fun S12 =>
 lZAW w0a w0l w0c w2 w4 (IntKind.wrap .i64 (w13 + 1)) S12) (
 jZAJ w0a w0l w0c w2 w4 S)
def b68_jZAJ (call : CallA) (n : Nat)  (w0a : OP) (w0l : Nat) (w0c : Cap) (w2 : OP) (w4 : OP) (S : AS) : RV :=
 gO w4 fun p14 =>
 ixArr 1 p14 6 0 fun p13 =>
 ldI .u64 S p13.1 p13.2 fun v15 =>
 gO w4 fun p17 =>
 ixArr 1 p17 6 1 fun p16 =>
 ldI .u64 S p16.1 p16.2 fun v18 =>
 gO w4 fun p20 =>
 ixArr 1 p20 6 2 fun p19 =>
 ldI .u64 S p19.1 p19.2 fun v21 =>
 gO w4 fun p23 =>
 ixArr 1 p23 6 3 fun p22 =>
 ldI .u64 S p22.1 p22.2 fun v24 =>
 gO w4 fun p26 =>
 ixArr 1 p26 6 4 fun p25 =>
 ldI .u64 S p25.1 p25.2 fun v27 =>
 gO w4 fun p29 =>
 ixArr 1 p29 6 5 fun p28 =>
 ldI .u64 S p28.1 p28.2 fun v30 =>
 newA S (.cells [(.int .u64 0), (.int .u64 0), (.int .u64 0), (.int .u64 0), (.int .u64 0), (.int .u64 0)]) fun b31 S32 =>
 S32.stn (.rw b31) 0 [(.int .u64 v15), (.int .u64 v18), (.int .u64 v21), (.int .u64 v24), (.int .u64 v27), (.int .u64 v30)] fun S33 =>
 S33.ldn (.rw b31) 0 6 fun g34 =>
 callT call 41 [(.agg g34)] S33 fun v36 S35 =>
 atL v36 0 fun v37a v37l v37c =>
 atI .i64 v36 1 fun v38 =>
 cond (v38 != 0) (
 gO w2 fun p40 =>
 S35.stn p40.1 p40.2 [(.int .u64 0), (.int .u64 0), (.int .u64 0), (.int .u64 0), (.int .u64 0), (.int .u64 0)] fun S39 =>
 gO w2 fun p41 =>
 S39.ldn p41.1 p41.2 6 fun g42 =>
 some (.tup [(.agg g42), (.int .i64 81)], S39)) (
 callB call 78 [(.sl v37a v37l v37c), (.sl w0a w0l w0c)] S35 fun v44 S43 =>
 cond (!v44) (
 gO w2 fun p46 =>
 S43.stn p46.1 p46.2 [(.int .u64 0), (.int .u64 0), (.int .u64 0), (.int .u64 0), (.int .u64 0), (.int .u64 0)] fun S45 =>
 gO w2 fun p47 =>
 S45.ldn p47.1 p47.2 6 fun g48 =>
 some (.tup [(.agg g48), (.int .i64 81)], S45)) (
 S43.ldn (.rw b31) 0 6 fun g49 =>
 gO w2 fun p51 =>
 ifO (g49.length = 6) <|
 S43.stn p51.1 p51.2 g49 fun S50 =>
 gO w2 fun p52 =>
 S50.ldn p52.1 p52.2 6 fun g53 =>
 some (.tup [(.agg g53), (.int .i64 0)], S50)))
def b68_entry (call : CallA) (n : Nat) (lZAW : OP → Nat → Cap → OP → OP → Int → AS → RV) (x0a : OP) (x0l : Nat) (x0c : Cap) (S : AS) : RV :=
 newA S (.cells [(.int .u64 0), (.int .u64 0), (.int .u64 0), (.int .u64 0), (.int .u64 0), (.int .u64 0)]) fun b1 S2 =>
 cond (((x0l : Nat) : Int) != 384) (
 S2.stn (.rw b1) 0 [(.int .u64 0), (.int .u64 0), (.int .u64 0), (.int .u64 0), (.int .u64 0), (.int .u64 0)] fun S3 =>
 S3.ldn (.rw b1) 0 6 fun g4 =>
 some (.tup [(.agg g4), (.int .i64 81)], S3)) (
 newA S2 (.cells [(.int .u64 0), (.int .u64 0), (.int .u64 0), (.int .u64 0), (.int .u64 0), (.int .u64 0)]) fun b5 S6 =>
 lZAW x0a x0l x0c (some ((.rw b1), 0)) (some ((.rw b5), 0)) 0 S6)
def r68_lZAW (call : CallA) (n : Nat) (m : Nat) (w0a : OP) (w0l : Nat) (w0c : Cap) (w2 : OP) (w4 : OP) (w13 : Int) (S : AS) : RV := loopN (evC E call n 68 (E.at 68 [1, 1, 1, 0, 1, 0, 0]) 0) [0, 2, 4, 13] m [(0, (.sl w0a w0l w0c)), (2, (.ptr w2)), (4, (.ptr w4)), (13, (.int .i64 w13))] S (kBlk 0 (kSeq E call n 68 (E.at 68 [1, 1, 1, 1]) 0 (retK E (E.fn 68))))
def r68_jZAJ (call : CallA) (n : Nat) (w0a : OP) (w0l : Nat) (w0c : Cap) (w2 : OP) (w4 : OP) (S : AS) : RV := evC E call n 68 (E.at 68 [1, 1, 1, 1]) 0 [(0, (.sl w0a w0l w0c)), (2, (.ptr w2)), (4, (.ptr w4))] S (retK E (E.fn 68))
theorem a68_lZAW (call : CallA) (n : Nat) (m : Nat) (w0a : OP) (w0l : Nat) (w0c : Cap) (w2 : OP) (w4 : OP) (w13 : Int) (S : AS) : r68_lZAW call n (m + 1) w0a w0l w0c w2 w4 w13 S = b68_lZAW call n (r68_lZAW call n m) (r68_jZAJ call n ) w0a w0l w0c w2 w4 w13 S := by kernel_rfl
theorem a68_jZAJ (call : CallA) (n : Nat) (w0a : OP) (w0l : Nat) (w0c : Cap) (w2 : OP) (w4 : OP) (S : AS) : r68_jZAJ call n w0a w0l w0c w2 w4 S = b68_jZAJ call n w0a w0l w0c w2 w4 S := by kernel_rfl
theorem a68_entry (call : CallA) (n : Nat) (x0a : OP) (x0l : Nat) (x0c : Cap) (S : AS) : evC E call n 68 (E.at 68 []) 0 (enumT 0 [(.sl x0a x0l x0c)]) S (retK E (E.fn 68)) = b68_entry call n (r68_lZAW call n n) x0a x0l x0c S := by kernel_rfl
def J68_jZAJ (call : CallA) (n : Nat) (w0a : OP) (w0l : Nat) (w0c : Cap) (w2 : OP) (w4 : OP) (S : AS) : RV := b68_jZAJ call n w0a w0l w0c w2 w4 S
theorem h68_jZAJ (call : CallA) (n : Nat) : r68_jZAJ call n = J68_jZAJ call n := by
 funext w0a w0l w0c w2 w4 S
 rw [J68_jZAJ, a68_jZAJ]
def J68_lZAW (call : CallA) (n : Nat) (m : Nat) : OP → Nat → Cap → OP → OP → Int → AS → RV := Nat.rec (motive := fun _ => OP → Nat → Cap → OP → OP → Int → AS → RV) (fun _ _ _ _ _ _ _ => none) (fun mK ih w0a w0l w0c w2 w4 w13 S => b68_lZAW call n ih (J68_jZAJ call n ) w0a w0l w0c w2 w4 w13 S) m
theorem J68_lZAW_succ (call : CallA) (n : Nat) (m : Nat) (w0a : OP) (w0l : Nat) (w0c : Cap) (w2 : OP) (w4 : OP) (w13 : Int) (S : AS) : J68_lZAW call n (m + 1) w0a w0l w0c w2 w4 w13 S = b68_lZAW call n (J68_lZAW call n m) (J68_jZAJ call n ) w0a w0l w0c w2 w4 w13 S := rfl
theorem h68_lZAW (call : CallA) (n : Nat) (m : Nat) : r68_lZAW call n m = J68_lZAW call n m := by
 induction m with
 | zero => rfl
 | succ m ih =>
  funext w0a w0l w0c w2 w4 w13 S
  rw [J68_lZAW_succ, a68_lZAW, h68_jZAJ call n , ih]
def J68 (call : CallA) (n : Nat) (x0a : OP) (x0l : Nat) (x0c : Cap) (S : AS) : RV := b68_entry call n (J68_lZAW call n n) x0a x0l x0c S
theorem run68 (o : Orc) (n : Nat) (args : List AV) (S : AS) (ho : o 68 args = none) : evF E o (n + 1) (.fn 68) args S = evC E (evF E o n) n 68 (E.at 68 []) 0 (enumT 0 args) S (retK E (E.fn 68)) := by
 rw [evF, ho]; kernel_rfl
theorem J68_eq (call : CallA) (n : Nat) (x0a : OP) (x0l : Nat) (x0c : Cap) (S : AS) : evC E call n 68 (E.at 68 []) 0 (enumT 0 [(.sl x0a x0l x0c)]) S (retK E (E.fn 68)) = J68 call n x0a x0l x0c S := by
 rw [J68, a68_entry, h68_lZAW call n n]
theorem F68 {o : Orc} (n : Nat) (x0a : OP) (x0l : Nat) (x0c : Cap) (S : AS) (ho : ∀ args, o 68 args = none) : evF E o (n + 1) (.fn 68) [(.sl x0a x0l x0c)] S = J68 (evF E o n) n x0a x0l x0c S := (run68 o n [(.sl x0a x0l x0c)] S (ho _)).trans (J68_eq _ _ x0a x0l x0c S)
def b69_entry (call : CallA) (n : Nat)  (x0a : OP) (x0l : Nat) (x0c : Cap) (S : AS) : RV :=
 newA S (.cells [(.int .u64 0), (.int .u64 0), (.int .u64 0), (.int .u64 0), (.int .i64 0), (.int .i64 0), (.sl none 0 (.ex 0))]) fun b1 S2 =>
 cond (((x0l : Nat) : Int) != 384) (
 S2.stn (.rw b1) 0 [(.int .u64 0), (.int .u64 0), (.int .u64 0), (.int .u64 0), (.int .i64 0), (.int .i64 0), (.sl none 0 (.ex 0))] fun S3 =>
 S3.ldn (.rw b1) 0 7 fun g4 =>
 some (.tup [(.agg g4), (.int .i64 81)], S3)) (
 slSl 1 x0a x0l x0c (some 40) (some 42) none fun v5a v5l v5c =>
 callI .u64 call 77 [(.sl v5a v5l v5c)] S2 fun v7 S6 =>
 drawA S6 28 fun b8 S9 =>
 slSl 1 x0a x0l x0c (some 4) (some 12) none fun v10a v10l v10c =>
 callI .u64 call 77 [(.sl v10a v10l v10c)] S9 fun v12 S11 =>
 slSl 1 x0a x0l x0c (some 12) (some 20) none fun v13a v13l v13c =>
 callI .u64 call 77 [(.sl v13a v13l v13c)] S11 fun v15 S14 =>
 slSl 1 x0a x0l x0c (some 20) (some 28) none fun v16a v16l v16c =>
 callI .u64 call 77 [(.sl v16a v16l v16c)] S14 fun v18 S17 =>
 slSl 1 x0a x0l x0c (some 28) (some 36) none fun v19a v19l v19c =>
 callI .u64 call 77 [(.sl v19a v19l v19c)] S17 fun v21 S20 =>
 slSl 1 x0a x0l x0c (some 36) (some 38) none fun v22a v22l v22c =>
 callI .u64 call 77 [(.sl v22a v22l v22c)] S20 fun v24 S23 =>
 slSl 1 x0a x0l x0c (some 38) (some 40) none fun v25a v25l v25c =>
 callI .u64 call 77 [(.sl v25a v25l v25c)] S23 fun v27 S26 =>
 slSl 1 x0a x0l x0c (some 48) (some (IntKind.wrap .i64 (48 + (if 336 < (IntKind.wrap .i64 v7) then 336 else (IntKind.wrap .i64 v7))))) none fun v28a v28l v28c =>
 callL call 79 [(.sl v28a v28l v28c)] S26 fun v30a v30l v30c S29 =>
 layA S29 (b8 + 26) (.cells [(.int .u64 0), (.int .u64 0), (.int .u64 0), (.int .u64 0), (.int .i64 0), (.int .i64 0), (.sl none 0 (.ex 0))]) fun S31 =>
 S31.stn (.rw (b8 + 26)) 0 [(.int .u64 v12), (.int .u64 v15), (.int .u64 v18), (.int .u64 v21), (.int .i64 (IntKind.wrap .i64 v24)), (.int .i64 (IntKind.wrap .i64 v27)), (.sl v30a v30l v30c)] fun S32 =>
 S32.ldn (.rw (b8 + 26)) 0 7 fun g33 =>
 callT call 36 [(.agg g33)] S32 fun v35 S34 =>
 atL v35 0 fun v36a v36l v36c =>
 atI .i64 v35 1 fun v37 =>
 cond (v37 != 0) (
 S34.stn (.rw b1) 0 [(.int .u64 0), (.int .u64 0), (.int .u64 0), (.int .u64 0), (.int .i64 0), (.int .i64 0), (.sl none 0 (.ex 0))] fun S38 =>
 S38.ldn (.rw b1) 0 7 fun g39 =>
 some (.tup [(.agg g39), (.int .i64 81)], S38)) (
 callB call 78 [(.sl v36a v36l v36c), (.sl x0a x0l x0c)] S34 fun v41 S40 =>
 cond (!v41) (
 S40.stn (.rw b1) 0 [(.int .u64 0), (.int .u64 0), (.int .u64 0), (.int .u64 0), (.int .i64 0), (.int .i64 0), (.sl none 0 (.ex 0))] fun S42 =>
 S42.ldn (.rw b1) 0 7 fun g43 =>
 some (.tup [(.agg g43), (.int .i64 81)], S42)) (
 S40.ldn (.rw (b8 + 26)) 0 7 fun g44 =>
 ifO (g44.length = 7) <|
 S40.stn (.rw b1) 0 g44 fun S45 =>
 S45.ldn (.rw b1) 0 7 fun g46 =>
 some (.tup [(.agg g46), (.int .i64 0)], S45))))
def J69 (call : CallA) (n : Nat) (x0a : OP) (x0l : Nat) (x0c : Cap) (S : AS) : RV := b69_entry call n x0a x0l x0c S
theorem run69 (o : Orc) (n : Nat) (args : List AV) (S : AS) (ho : o 69 args = none) : evF E o (n + 1) (.fn 69) args S = evC E (evF E o n) n 69 (E.at 69 []) 0 (enumT 0 args) S (retK E (E.fn 69)) := by
 rw [evF, ho]; kernel_rfl
theorem J69_eq (call : CallA) (n : Nat) (x0a : OP) (x0l : Nat) (x0c : Cap) (S : AS) : evC E call n 69 (E.at 69 []) 0 (enumT 0 [(.sl x0a x0l x0c)]) S (retK E (E.fn 69)) = J69 call n x0a x0l x0c S := by kernel_rfl
theorem F69 {o : Orc} (n : Nat) (x0a : OP) (x0l : Nat) (x0c : Cap) (S : AS) (ho : ∀ args, o 69 args = none) : evF E o (n + 1) (.fn 69) [(.sl x0a x0l x0c)] S = J69 (evF E o n) n x0a x0l x0c S := (run69 o n [(.sl x0a x0l x0c)] S (ho _)).trans (J69_eq _ _ x0a x0l x0c S)
def b70_entry (call : CallA) (n : Nat)  (x0 : List AV) (x1 : List AV) (S : AS) : RV :=
 ifO (x0.length = 2) <|
 newA S (.cells x0) fun b1 S2 =>
 ifO (x1.length = 2) <|
 newA S2 (.cells x1) fun b3 S4 =>
 ldI .u64 S4 (.rw b1) 0 fun v5 =>
 ldI .u64 S4 (.rw b3) 0 fun v6 =>
 cond (decide (v5 > v6)) (
 some ((.bool true), S4)) (
 ldI .u64 S4 (.rw b1) 0 fun v7 =>
 ldI .u64 S4 (.rw b3) 0 fun v8 =>
 cond (v7 == v8) (
 ldI .u64 S4 (.rw b1) 1 fun v9 =>
 ldI .u64 S4 (.rw b3) 1 fun v10 =>
 some ((.bool (decide (v9 > v10))), S4)) (
 some ((.bool false), S4)))
def J70 (call : CallA) (n : Nat) (x0 : List AV) (x1 : List AV) (S : AS) : RV := b70_entry call n x0 x1 S
theorem run70 (o : Orc) (n : Nat) (args : List AV) (S : AS) (ho : o 70 args = none) : evF E o (n + 1) (.fn 70) args S = evC E (evF E o n) n 70 (E.at 70 []) 0 (enumT 0 args) S (retK E (E.fn 70)) := by
 rw [evF, ho]; kernel_rfl
theorem J70_eq (call : CallA) (n : Nat) (x0 : List AV) (x1 : List AV) (S : AS) : evC E call n 70 (E.at 70 []) 0 (enumT 0 [(.agg x0), (.agg x1)]) S (retK E (E.fn 70)) = J70 call n x0 x1 S := by kernel_rfl
theorem F70 {o : Orc} (n : Nat) (x0 : List AV) (x1 : List AV) (S : AS) (ho : ∀ args, o 70 args = none) : evF E o (n + 1) (.fn 70) [(.agg x0), (.agg x1)] S = J70 (evF E o n) n x0 x1 S := (run70 o n [(.agg x0), (.agg x1)] S (ho _)).trans (J70_eq _ _ x0 x1 S)
def b71_lZAa (call : CallA) (n : Nat) (lZAa : OP → Nat → Cap → OP → Nat → Cap → AS → RV) (jZAL : OP → Nat → Cap → AS → RV) (w5a : OP) (w5l : Nat) (w5c : Cap) (w6a : OP) (w6l : Nat) (w6c : Cap) (S : AS) : RV :=
 cond (decide (((w6l : Nat) : Int) > 0)) (
 drawA S 12 fun b5 S6 =>
 slSl 1 w6a w6l w6c none (some 4) none fun v7a v7l v7c =>
 callI .u64 call 77 [(.sl v7a v7l v7c)] S6 fun v9 S8 =>
 slSl 1 w6a w6l w6c (some 4) (some 388) none fun v10a v10l v10c =>
 callL call 79 [(.sl v10a v10l v10c)] S8 fun v12a v12l v12c S11 =>
 layA S11 (b5 + 9) (.cells [(.int .i64 (IntKind.wrap .i64 v9)), (.sl v12a v12l v12c)]) fun S13 =>
 appendA 2 32 S13 w5a w5l w5c 1 (firstA S13 2 1 (.sl (some (.rw (b5 + 9), 0)) 1 (.ex 1))) fun v14a v14l v14c S15 =>
 slSl 1 w6a w6l w6c (some 388) none none fun v16a v16l v16c =>
 lZAa v14a v14l v14c v16a v16l v16c S15) (
 jZAL w5a w5l w5c S)
def b71_jZAL (call : CallA) (n : Nat)  (w5a : OP) (w5l : Nat) (w5c : Cap) (S : AS) : RV :=
 callT call 33 [(.sl w5a w5l w5c)] S fun v18 S17 =>
 atL v18 0 fun v19a v19l v19c =>
 atI .i64 v18 1 fun v20 =>
 cond (v20 != 0) (
 some (.tup [(.sl none 0 (.ex 0)), (.int .i64 v20)], S17)) (
 some (.tup [(.sl w5a w5l w5c), (.int .i64 0)], S17))
def b71_entry (call : CallA) (n : Nat) (lZAa : OP → Nat → Cap → OP → Nat → Cap → AS → RV) (x0a : OP) (x0l : Nat) (x0c : Cap) (S : AS) : RV :=
 cond (decide (((x0l : Nat) : Int) < 4)) (
 some (.tup [(.sl none 0 (.ex 0)), (.int .i64 82)], S)) (
 slSl 1 x0a x0l x0c none (some 4) none fun v1a v1l v1c =>
 callI .u64 call 77 [(.sl v1a v1l v1c)] S fun v3 S2 =>
 cond (decide (v3 > 64)) (
 some (.tup [(.sl none 0 (.ex 0)), (.int .i64 82)], S2)) (
 cond ((IntKind.wrap .u64 (IntKind.wrap .i64 (((x0l : Nat) : Int) - 4))) != (IntKind.wrap .u64 (v3 * 388))) (
 some (.tup [(.sl none 0 (.ex 0)), (.int .i64 82)], S2)) (
 slSl 1 x0a x0l x0c (some 4) none none fun v4a v4l v4c =>
 lZAa none 0 (.ex 0) v4a v4l v4c S2)))
def r71_lZAa (call : CallA) (n : Nat) (m : Nat) (w5a : OP) (w5l : Nat) (w5c : Cap) (w6a : OP) (w6l : Nat) (w6c : Cap) (S : AS) : RV := loopN (evC E call n 71 (E.at 71 [1, 1, 1, 1, 1, 0, 1, 0, 0]) 0) [5, 6] m [(5, (.sl w5a w5l w5c)), (6, (.sl w6a w6l w6c))] S (kBlk 0 (kSeq E call n 71 (E.at 71 [1, 1, 1, 1, 1, 1]) 0 (retK E (E.fn 71))))
def r71_jZAL (call : CallA) (n : Nat) (w5a : OP) (w5l : Nat) (w5c : Cap) (S : AS) : RV := evC E call n 71 (E.at 71 [1, 1, 1, 1, 1, 1]) 0 [(5, (.sl w5a w5l w5c))] S (retK E (E.fn 71))
theorem a71_lZAa (call : CallA) (n : Nat) (m : Nat) (w5a : OP) (w5l : Nat) (w5c : Cap) (w6a : OP) (w6l : Nat) (w6c : Cap) (S : AS) : r71_lZAa call n (m + 1) w5a w5l w5c w6a w6l w6c S = b71_lZAa call n (r71_lZAa call n m) (r71_jZAL call n ) w5a w5l w5c w6a w6l w6c S := by kernel_rfl
theorem a71_jZAL (call : CallA) (n : Nat) (w5a : OP) (w5l : Nat) (w5c : Cap) (S : AS) : r71_jZAL call n w5a w5l w5c S = b71_jZAL call n w5a w5l w5c S := by kernel_rfl
theorem a71_entry (call : CallA) (n : Nat) (x0a : OP) (x0l : Nat) (x0c : Cap) (S : AS) : evC E call n 71 (E.at 71 []) 0 (enumT 0 [(.sl x0a x0l x0c)]) S (retK E (E.fn 71)) = b71_entry call n (r71_lZAa call n n) x0a x0l x0c S := by kernel_rfl
def J71_jZAL (call : CallA) (n : Nat) (w5a : OP) (w5l : Nat) (w5c : Cap) (S : AS) : RV := b71_jZAL call n w5a w5l w5c S
theorem h71_jZAL (call : CallA) (n : Nat) : r71_jZAL call n = J71_jZAL call n := by
 funext w5a w5l w5c S
 rw [J71_jZAL, a71_jZAL]
def J71_lZAa (call : CallA) (n : Nat) (m : Nat) : OP → Nat → Cap → OP → Nat → Cap → AS → RV := Nat.rec (motive := fun _ => OP → Nat → Cap → OP → Nat → Cap → AS → RV) (fun _ _ _ _ _ _ _ => none) (fun mK ih w5a w5l w5c w6a w6l w6c S => b71_lZAa call n ih (J71_jZAL call n ) w5a w5l w5c w6a w6l w6c S) m
theorem J71_lZAa_succ (call : CallA) (n : Nat) (m : Nat) (w5a : OP) (w5l : Nat) (w5c : Cap) (w6a : OP) (w6l : Nat) (w6c : Cap) (S : AS) : J71_lZAa call n (m + 1) w5a w5l w5c w6a w6l w6c S = b71_lZAa call n (J71_lZAa call n m) (J71_jZAL call n ) w5a w5l w5c w6a w6l w6c S := rfl
theorem h71_lZAa (call : CallA) (n : Nat) (m : Nat) : r71_lZAa call n m = J71_lZAa call n m := by
 induction m with
 | zero => rfl
 | succ m ih =>
  funext w5a w5l w5c w6a w6l w6c S
  rw [J71_lZAa_succ, a71_lZAa, h71_jZAL call n , ih]
def J71 (call : CallA) (n : Nat) (x0a : OP) (x0l : Nat) (x0c : Cap) (S : AS) : RV := b71_entry call n (J71_lZAa call n n) x0a x0l x0c S
theorem run71 (o : Orc) (n : Nat) (args : List AV) (S : AS) (ho : o 71 args = none) : evF E o (n + 1) (.fn 71) args S = evC E (evF E o n) n 71 (E.at 71 []) 0 (enumT 0 args) S (retK E (E.fn 71)) := by
 rw [evF, ho]; kernel_rfl
theorem J71_eq (call : CallA) (n : Nat) (x0a : OP) (x0l : Nat) (x0c : Cap) (S : AS) : evC E call n 71 (E.at 71 []) 0 (enumT 0 [(.sl x0a x0l x0c)]) S (retK E (E.fn 71)) = J71 call n x0a x0l x0c S := by
 rw [J71, a71_entry, h71_lZAa call n n]
theorem F71 {o : Orc} (n : Nat) (x0a : OP) (x0l : Nat) (x0c : Cap) (S : AS) (ho : ∀ args, o 71 args = none) : evF E o (n + 1) (.fn 71) [(.sl x0a x0l x0c)] S = J71 (evF E o n) n x0a x0l x0c S := (run71 o n [(.sl x0a x0l x0c)] S (ho _)).trans (J71_eq _ _ x0a x0l x0c S)
def b72_lZAQ (call : CallA) (n : Nat) (lZAQ : OP → Nat → Cap → Int → Int → AS → RV) (w0a : OP) (w0l : Nat) (w0c : Cap) (w1 : Int) (w4 : Int) (S : AS) : RV :=
 cond (decide (w4 ≥ 0)) (
 ixSl 1 w0a w0l w4 fun p1 =>
 S.stn p1.1 p1.2 [(.int .u8 (IntKind.wrap .u8 w1))] fun S2 =>
 lZAQ w0a w0l w0c (shrI .u64 w1 8) (IntKind.wrap .i64 (w4 - 1)) S2) (
 some (.tup [], S))
def b72_entry (call : CallA) (n : Nat) (lZAQ : OP → Nat → Cap → Int → Int → AS → RV) (x0a : OP) (x0l : Nat) (x0c : Cap) (x1 : Int) (S : AS) : RV :=
 lZAQ x0a x0l x0c x1 (IntKind.wrap .i64 (((x0l : Nat) : Int) - 1)) S
def r72_lZAQ (call : CallA) (n : Nat) (m : Nat) (w0a : OP) (w0l : Nat) (w0c : Cap) (w1 : Int) (w4 : Int) (S : AS) : RV := loopN (evC E call n 72 (E.at 72 [1, 0, 0]) 0) [0, 1, 4] m [(0, (.sl w0a w0l w0c)), (1, (.int .u64 w1)), (4, (.int .i64 w4))] S (kBlk 0 (retK E (E.fn 72)))
theorem a72_lZAQ (call : CallA) (n : Nat) (m : Nat) (w0a : OP) (w0l : Nat) (w0c : Cap) (w1 : Int) (w4 : Int) (S : AS) : r72_lZAQ call n (m + 1) w0a w0l w0c w1 w4 S = b72_lZAQ call n (r72_lZAQ call n m) w0a w0l w0c w1 w4 S := by kernel_rfl
theorem a72_entry (call : CallA) (n : Nat) (x0a : OP) (x0l : Nat) (x0c : Cap) (x1 : Int) (S : AS) : evC E call n 72 (E.at 72 []) 0 (enumT 0 [(.sl x0a x0l x0c), (.int .u64 x1)]) S (retK E (E.fn 72)) = b72_entry call n (r72_lZAQ call n n) x0a x0l x0c x1 S := by kernel_rfl
def J72_lZAQ (call : CallA) (n : Nat) (m : Nat) : OP → Nat → Cap → Int → Int → AS → RV := Nat.rec (motive := fun _ => OP → Nat → Cap → Int → Int → AS → RV) (fun _ _ _ _ _ _ => none) (fun mK ih w0a w0l w0c w1 w4 S => b72_lZAQ call n ih w0a w0l w0c w1 w4 S) m
theorem J72_lZAQ_succ (call : CallA) (n : Nat) (m : Nat) (w0a : OP) (w0l : Nat) (w0c : Cap) (w1 : Int) (w4 : Int) (S : AS) : J72_lZAQ call n (m + 1) w0a w0l w0c w1 w4 S = b72_lZAQ call n (J72_lZAQ call n m) w0a w0l w0c w1 w4 S := rfl
theorem h72_lZAQ (call : CallA) (n : Nat) (m : Nat) : r72_lZAQ call n m = J72_lZAQ call n m := by
 induction m with
 | zero => rfl
 | succ m ih =>
  funext w0a w0l w0c w1 w4 S
  rw [J72_lZAQ_succ, a72_lZAQ, ih]
def J72 (call : CallA) (n : Nat) (x0a : OP) (x0l : Nat) (x0c : Cap) (x1 : Int) (S : AS) : RV := b72_entry call n (J72_lZAQ call n n) x0a x0l x0c x1 S
theorem run72 (o : Orc) (n : Nat) (args : List AV) (S : AS) (ho : o 72 args = none) : evF E o (n + 1) (.fn 72) args S = evC E (evF E o n) n 72 (E.at 72 []) 0 (enumT 0 args) S (retK E (E.fn 72)) := by
 rw [evF, ho]; kernel_rfl
theorem J72_eq (call : CallA) (n : Nat) (x0a : OP) (x0l : Nat) (x0c : Cap) (x1 : Int) (S : AS) : evC E call n 72 (E.at 72 []) 0 (enumT 0 [(.sl x0a x0l x0c), (.int .u64 x1)]) S (retK E (E.fn 72)) = J72 call n x0a x0l x0c x1 S := by
 rw [J72, a72_entry, h72_lZAQ call n n]
theorem F72 {o : Orc} (n : Nat) (x0a : OP) (x0l : Nat) (x0c : Cap) (x1 : Int) (S : AS) (ho : ∀ args, o 72 args = none) : evF E o (n + 1) (.fn 72) [(.sl x0a x0l x0c), (.int .u64 x1)] S = J72 (evF E o n) n x0a x0l x0c x1 S := (run72 o n [(.sl x0a x0l x0c), (.int .u64 x1)] S (ho _)).trans (J72_eq _ _ x0a x0l x0c x1 S)
def b73_lZAS (call : CallA) (n : Nat) (lZAS : OP → Nat → Cap → Int → Int → Int → Int → AS → RV) (w0a : OP) (w0l : Nat) (w0c : Cap) (w1 : Int) (w2 : Int) (w7 : Int) (w8 : Int) (S : AS) : RV :=
 cond (decide (w8 < w2)) (
 ixSl 1 w0a w0l (IntKind.wrap .i64 (w1 + w8)) fun p1 =>
 ldI .u8 S p1.1 p1.2 fun v2 =>
 lZAS w0a w0l w0c w1 w2 (orI .u64 (shlI .u64 w7 8) (IntKind.wrap .u64 v2)) (IntKind.wrap .i64 (w8 + 1)) S) (
 some ((.int .u64 w7), S))
def b73_entry (call : CallA) (n : Nat) (lZAS : OP → Nat → Cap → Int → Int → Int → Int → AS → RV) (x0a : OP) (x0l : Nat) (x0c : Cap) (x1 : Int) (x2 : Int) (S : AS) : RV :=
 lZAS x0a x0l x0c x1 x2 0 0 S
def r73_lZAS (call : CallA) (n : Nat) (m : Nat) (w0a : OP) (w0l : Nat) (w0c : Cap) (w1 : Int) (w2 : Int) (w7 : Int) (w8 : Int) (S : AS) : RV := loopN (evC E call n 73 (E.at 73 [1, 1, 0, 1, 0, 0]) 0) [0, 1, 2, 7, 8] m [(0, (.sl w0a w0l w0c)), (1, (.int .i64 w1)), (2, (.int .i64 w2)), (7, (.int .u64 w7)), (8, (.int .i64 w8))] S (kBlk 0 (kSeq E call n 73 (E.at 73 [1, 1, 1]) 0 (retK E (E.fn 73))))
theorem a73_lZAS (call : CallA) (n : Nat) (m : Nat) (w0a : OP) (w0l : Nat) (w0c : Cap) (w1 : Int) (w2 : Int) (w7 : Int) (w8 : Int) (S : AS) : r73_lZAS call n (m + 1) w0a w0l w0c w1 w2 w7 w8 S = b73_lZAS call n (r73_lZAS call n m) w0a w0l w0c w1 w2 w7 w8 S := by kernel_rfl
theorem a73_entry (call : CallA) (n : Nat) (x0a : OP) (x0l : Nat) (x0c : Cap) (x1 : Int) (x2 : Int) (S : AS) : evC E call n 73 (E.at 73 []) 0 (enumT 0 [(.sl x0a x0l x0c), (.int .i64 x1), (.int .i64 x2)]) S (retK E (E.fn 73)) = b73_entry call n (r73_lZAS call n n) x0a x0l x0c x1 x2 S := by kernel_rfl
def J73_lZAS (call : CallA) (n : Nat) (m : Nat) : OP → Nat → Cap → Int → Int → Int → Int → AS → RV := Nat.rec (motive := fun _ => OP → Nat → Cap → Int → Int → Int → Int → AS → RV) (fun _ _ _ _ _ _ _ _ => none) (fun mK ih w0a w0l w0c w1 w2 w7 w8 S => b73_lZAS call n ih w0a w0l w0c w1 w2 w7 w8 S) m
theorem J73_lZAS_succ (call : CallA) (n : Nat) (m : Nat) (w0a : OP) (w0l : Nat) (w0c : Cap) (w1 : Int) (w2 : Int) (w7 : Int) (w8 : Int) (S : AS) : J73_lZAS call n (m + 1) w0a w0l w0c w1 w2 w7 w8 S = b73_lZAS call n (J73_lZAS call n m) w0a w0l w0c w1 w2 w7 w8 S := rfl
theorem h73_lZAS (call : CallA) (n : Nat) (m : Nat) : r73_lZAS call n m = J73_lZAS call n m := by
 induction m with
 | zero => rfl
 | succ m ih =>
  funext w0a w0l w0c w1 w2 w7 w8 S
  rw [J73_lZAS_succ, a73_lZAS, ih]
def J73 (call : CallA) (n : Nat) (x0a : OP) (x0l : Nat) (x0c : Cap) (x1 : Int) (x2 : Int) (S : AS) : RV := b73_entry call n (J73_lZAS call n n) x0a x0l x0c x1 x2 S
theorem run73 (o : Orc) (n : Nat) (args : List AV) (S : AS) (ho : o 73 args = none) : evF E o (n + 1) (.fn 73) args S = evC E (evF E o n) n 73 (E.at 73 []) 0 (enumT 0 args) S (retK E (E.fn 73)) := by
 rw [evF, ho]; kernel_rfl
theorem J73_eq (call : CallA) (n : Nat) (x0a : OP) (x0l : Nat) (x0c : Cap) (x1 : Int) (x2 : Int) (S : AS) : evC E call n 73 (E.at 73 []) 0 (enumT 0 [(.sl x0a x0l x0c), (.int .i64 x1), (.int .i64 x2)]) S (retK E (E.fn 73)) = J73 call n x0a x0l x0c x1 x2 S := by
 rw [J73, a73_entry, h73_lZAS call n n]
theorem F73 {o : Orc} (n : Nat) (x0a : OP) (x0l : Nat) (x0c : Cap) (x1 : Int) (x2 : Int) (S : AS) (ho : ∀ args, o 73 args = none) : evF E o (n + 1) (.fn 73) [(.sl x0a x0l x0c), (.int .i64 x1), (.int .i64 x2)] S = J73 (evF E o n) n x0a x0l x0c x1 x2 S := (run73 o n [(.sl x0a x0l x0c), (.int .i64 x1), (.int .i64 x2)] S (ho _)).trans (J73_eq _ _ x0a x0l x0c x1 x2 S)
def b74_entry (call : CallA) (n : Nat)  (x0 : OP) (x1 : Int) (S : AS) : RV :=
 newA S (.cells [(.int .u64 0), (.int .u64 0), (.int .u64 0), (.int .u64 0), (.int .i64 0), (.int .i64 0), (.sl none 0 (.ex 0))]) fun b1 S2 =>
 gO x0 fun p3 =>
 ldP S2 p3.1 p3.2 fun v4 =>
 callI .i64 call 67 [(.ptr x0), (.int .u64 x1)] S2 fun v6 S5 =>
 ldP S5 p3.1 p3.2 fun v7 =>
 cond (AV.beq (.ptr v7) (.ptr v4)) (
 callT call 59 [(.ptr v4), (.int .i64 v6)] S5 fun v9 S8 =>
 atL v9 0 fun v10a v10l v10c =>
 atI .i64 v9 1 fun v11 =>
 callT call 80 [(.sl v10a v10l v10c)] S8 fun v13 S12 =>
 atG 7 v13 0 fun g14 =>
 atI .i64 v13 1 fun v15 =>
 newA S12 (.cells [(.int .u64 0), (.int .u64 0), (.int .u64 0), (.int .u64 0), (.int .i64 0), (.int .i64 0), (.sl none 0 (.ex 0))]) fun b16 S17 =>
 ifO (g14.length = 7) <|
 S17.stn (.rw b16) 0 g14 fun S18 =>
 S18.ldn (.rw b16) 0 7 fun g19 =>
 cond (v15 == 0) (
 ldI .u64 S18 (.rw b16) 2 fun v20 =>
 ifO (g19.length = 7) <|
 S18.stn (.rw b1) 0 g19 fun S21 =>
 ldI .u64 S21 (.rw b16) 2 fun v22 =>
 cond (AV.beq (.int .u64 v22) (.int .u64 v20)) (
 S21.ldn (.rw b1) 0 7 fun g23 =>
 some (.tup [(.agg g23), (.bool (v20 == x1))], S21)) none) (
 ifO (g19.length = 7) <|
 S18.stn (.rw b1) 0 g19 fun S24 =>
 S24.ldn (.rw b1) 0 7 fun g25 =>
 some (.tup [(.agg g25), (.bool false)], S24))) none
def J74 (call : CallA) (n : Nat) (x0 : OP) (x1 : Int) (S : AS) : RV := b74_entry call n x0 x1 S
theorem run74 (o : Orc) (n : Nat) (args : List AV) (S : AS) (ho : o 74 args = none) : evF E o (n + 1) (.fn 74) args S = evC E (evF E o n) n 74 (E.at 74 []) 0 (enumT 0 args) S (retK E (E.fn 74)) := by
 rw [evF, ho]; kernel_rfl
theorem J74_eq (call : CallA) (n : Nat) (x0 : OP) (x1 : Int) (S : AS) : evC E call n 74 (E.at 74 []) 0 (enumT 0 [(.ptr x0), (.int .u64 x1)]) S (retK E (E.fn 74)) = J74 call n x0 x1 S := by kernel_rfl
theorem F74 {o : Orc} (n : Nat) (x0 : OP) (x1 : Int) (S : AS) (ho : ∀ args, o 74 args = none) : evF E o (n + 1) (.fn 74) [(.ptr x0), (.int .u64 x1)] S = J74 (evF E o n) n x0 x1 S := (run74 o n [(.ptr x0), (.int .u64 x1)] S (ho _)).trans (J74_eq _ _ x0 x1 S)
def b75_entry (call : CallA) (n : Nat)  (x0 : List AV) (x1 : List AV) (S : AS) : RV :=
 ifO (x0.length = 2) <|
 newA S (.cells x0) fun b1 S2 =>
 ifO (x1.length = 2) <|
 newA S2 (.cells x1) fun b3 S4 =>
 ldI .u64 S4 (.rw b1) 0 fun v5 =>
 ldI .u64 S4 (.rw b3) 0 fun v6 =>
 cond (decide (v5 > v6)) (
 some ((.bool true), S4)) (
 ldI .u64 S4 (.rw b1) 0 fun v7 =>
 ldI .u64 S4 (.rw b3) 0 fun v8 =>
 cond (v7 == v8) (
 ldI .u64 S4 (.rw b1) 1 fun v9 =>
 ldI .u64 S4 (.rw b3) 1 fun v10 =>
 some ((.bool (decide (v9 > v10))), S4)) (
 some ((.bool false), S4)))
def J75 (call : CallA) (n : Nat) (x0 : List AV) (x1 : List AV) (S : AS) : RV := b75_entry call n x0 x1 S
theorem run75 (o : Orc) (n : Nat) (args : List AV) (S : AS) (ho : o 75 args = none) : evF E o (n + 1) (.fn 75) args S = evC E (evF E o n) n 75 (E.at 75 []) 0 (enumT 0 args) S (retK E (E.fn 75)) := by
 rw [evF, ho]; kernel_rfl
theorem J75_eq (call : CallA) (n : Nat) (x0 : List AV) (x1 : List AV) (S : AS) : evC E call n 75 (E.at 75 []) 0 (enumT 0 [(.agg x0), (.agg x1)]) S (retK E (E.fn 75)) = J75 call n x0 x1 S := by kernel_rfl
theorem F75 {o : Orc} (n : Nat) (x0 : List AV) (x1 : List AV) (S : AS) (ho : ∀ args, o 75 args = none) : evF E o (n + 1) (.fn 75) [(.agg x0), (.agg x1)] S = J75 (evF E o n) n x0 x1 S := (run75 o n [(.agg x0), (.agg x1)] S (ho _)).trans (J75_eq _ _ x0 x1 S)
end
end Go.Jn
