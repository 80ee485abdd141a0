/- Plain readings of the functions, and that they are what the evaluator does: by program. -/
import Derived.Test.YtcepfilbiahdjaaGrRes
import Derived.Test.YtcepfilbiahdjaaENV
import Derived.KernelRfl
set_option maxRecDepth 100000
set_option linter.unusedVariables false
namespace Go.Jn
open Go.Gr
noncomputable section
def b24_lZAO (call : CallA) (n : Nat) (lZAP : OP → OP → Nat → Cap → Int → Bool → Int → AS → RV) (j1 : OP → AS → RV) (w0 : OP) (w1a : OP) (w1l : Nat) (w1c : Cap) (w4 : Int) (S : AS) : RV :=
 gO w0 fun p1 =>
 ldL S p1.1 (p1.2 + 1) fun v2a v2l v2c =>
 cond (decide (w4 < ((v2l : Nat) : Int))) (
 lZAP w0 w1a w1l w1c w4 false 0 S) (
 j1 w0 S)
def b24_lZAP (call : CallA) (n : Nat) (lZAP : OP → OP → Nat → Cap → Int → Bool → Int → AS → RV) (jZAA : OP → OP → Nat → Cap → Int → Bool → AS → RV) (w0 : OP) (w1a : OP) (w1l : Nat) (w1c : Cap) (w4 : Int) (w5 : Bool) (w6 : Int) (S : AS) : RV :=
 cond (decide (w6 < ((w1l : Nat) : Int))) (
 cond w5 (
 lZAP w0 w1a w1l w1c w4 true (IntKind.wrap .i64 (w6 + 1)) S) (
 ixSl 1 w1a w1l w6 fun p3 =>
 ldI .i64 S p3.1 p3.2 fun v4 =>
 lZAP w0 w1a w1l w1c w4 (v4 == w4) (IntKind.wrap .i64 (w6 + 1)) S)) (
 jZAA w0 w1a w1l w1c w4 w5 S)
def b24_j1 (call : CallA) (n : Nat)  (w0 : OP) (S : AS) : RV :=
 gO w0 fun p5 =>
 S.stn p5.1 (p5.2 + 1) [(.sl none 0 (.ex 0))] fun S6 =>
 some (.tup [], S6)
def b24_jZAA (call : CallA) (n : Nat) (jZAB : OP → OP → Nat → Cap → Int → AS → RV) (w0 : OP) (w1a : OP) (w1l : Nat) (w1c : Cap) (w4 : Int) (w5 : Bool) (S : AS) : RV :=
 cond w5 (
 gO w0 fun p7 =>
 ldL S p7.1 p7.2 fun v8a v8l v8c =>
 gO w0 fun p9 =>
 ldL S p9.1 (p9.2 + 1) fun v10a v10l v10c =>
 ixSl 2 v10a v10l w4 fun p11 =>
 ldI .i64 S p11.1 p11.2 fun v12 =>
 gO w0 fun p13 =>
 ldL S p13.1 (p13.2 + 1) fun v14a v14l v14c =>
 ixSl 2 v14a v14l w4 fun p15 =>
 ldS S p15.1 (p15.2 + 1) fun v16 =>
 ixSl 1 v8a v8l v12 fun p17 =>
 S.stn p17.1 p17.2 [(.str v16)] fun S18 =>
 jZAB w0 w1a w1l w1c w4 S18) (
 jZAB w0 w1a w1l w1c w4 S)
def b24_jZAB (call : CallA) (n : Nat) (lZAO : OP → OP → Nat → Cap → Int → AS → RV) (w0 : OP) (w1a : OP) (w1l : Nat) (w1c : Cap) (w4 : Int) (S : AS) : RV :=
 lZAO w0 w1a w1l w1c (IntKind.wrap .i64 (w4 + 1)) S
def b24_entry (call : CallA) (n : Nat) (lZAO : OP → OP → Nat → Cap → Int → AS → RV) (x0 : OP) (x1a : OP) (x1l : Nat) (x1c : Cap) (S : AS) : RV :=
 lZAO x0 x1a x1l x1c 0 S
def r24_lZAO (call : CallA) (n : Nat) (m : Nat) (w0 : OP) (w1a : OP) (w1l : Nat) (w1c : Cap) (w4 : Int) (S : AS) : RV := loopN (evC E call n 24 (E.at 24 [0, 1, 0, 0]) 0) [0, 1, 4] m [(0, (.ptr w0)), (1, (.sl w1a w1l w1c)), (4, (.int .i64 w4))] S (kBlk 0 (kSeq E call n 24 (E.at 24 [1]) 0 (retK E (E.fn 24))))
def r24_lZAP (call : CallA) (n : Nat) (m0_1_0 : Nat) (m : Nat) (w0 : OP) (w1a : OP) (w1l : Nat) (w1c : Cap) (w4 : Int) (w5 : Bool) (w6 : Int) (S : AS) : RV := loopN (evC E call n 24 (E.at 24 [0, 1, 0, 0, 1, 0, 0, 1, 0, 1, 0, 0]) 2) [0, 1, 4, 5, 6] m [(0, (.ptr w0)), (1, (.sl w1a w1l w1c)), (4, (.int .i64 w4)), (5, (.bool w5)), (6, (.int .i64 w6))] S (kBlk 2 (kSeq E call n 24 (E.at 24 [0, 1, 0, 0, 1, 0, 0, 1, 1]) 1 (kBlk 1 (kSeq E call n 24 (E.at 24 [0, 1, 0, 0, 1, 1]) 0 (kLp (evC E call n 24 (E.at 24 [0, 1, 0, 0]) 0) [0, 1, 4] m0_1_0 (kBlk 0 (kSeq E call n 24 (E.at 24 [1]) 0 (retK E (E.fn 24)))))))))
def r24_j1 (call : CallA) (n : Nat) (w0 : OP) (S : AS) : RV := evC E call n 24 (E.at 24 [1]) 0 [(0, (.ptr w0))] S (retK E (E.fn 24))
def r24_jZAA (call : CallA) (n : Nat) (m0_1_0 : Nat) (w0 : OP) (w1a : OP) (w1l : Nat) (w1c : Cap) (w4 : Int) (w5 : Bool) (S : AS) : RV := evC E call n 24 (E.at 24 [0, 1, 0, 0, 1, 0, 0, 1, 1]) 1 [(0, (.ptr w0)), (1, (.sl w1a w1l w1c)), (4, (.int .i64 w4)), (5, (.bool w5))] S (kBlk 1 (kSeq E call n 24 (E.at 24 [0, 1, 0, 0, 1, 1]) 0 (kLp (evC E call n 24 (E.at 24 [0, 1, 0, 0]) 0) [0, 1, 4] m0_1_0 (kBlk 0 (kSeq E call n 24 (E.at 24 [1]) 0 (retK E (E.fn 24)))))))
def r24_jZAB (call : CallA) (n : Nat) (m0_1_0 : Nat) (w0 : OP) (w1a : OP) (w1l : Nat) (w1c : Cap) (w4 : Int) (S : AS) : RV := evC E call n 24 (E.at 24 [0, 1, 0, 0, 1, 1]) 0 [(0, (.ptr w0)), (1, (.sl w1a w1l w1c)), (4, (.int .i64 w4))] S (kLp (evC E call n 24 (E.at 24 [0, 1, 0, 0]) 0) [0, 1, 4] m0_1_0 (kBlk 0 (kSeq E call n 24 (E.at 24 [1]) 0 (retK E (E.fn 24)))))
theorem a24_lZAO (call : CallA) (n : Nat) (m : Nat) (w0 : OP) (w1a : OP) (w1l : Nat) (w1c : Cap) (w4 : Int) (S : AS) : r24_lZAO call n (m + 1) w0 w1a w1l w1c w4 S = b24_lZAO call n (r24_lZAP call n m n) (r24_j1 call n ) w0 w1a w1l w1c w4 S := by kernel_rfl
theorem a24_lZAP (call : CallA) (n : Nat) (m0_1_0 : Nat) (m : Nat) (w0 : OP) (w1a : OP) (w1l : Nat) (w1c : Cap) (w4 : Int) (w5 : Bool) (w6 : Int) (S : AS) : r24_lZAP call n m0_1_0 (m + 1) w0 w1a w1l w1c w4 w5 w6 S = b24_lZAP call n (r24_lZAP call n m0_1_0 m) (r24_jZAA call n m0_1_0) w0 w1a w1l w1c w4 w5 w6 S := by kernel_rfl
theorem a24_j1 (call : CallA) (n : Nat) (w0 : OP) (S : AS) : r24_j1 call n w0 S = b24_j1 call n w0 S := by kernel_rfl
theorem a24_jZAA (call : CallA) (n : Nat) (m0_1_0 : Nat) (w0 : OP) (w1a : OP) (w1l : Nat) (w1c : Cap) (w4 : Int) (w5 : Bool) (S : AS) : r24_jZAA call n m0_1_0 w0 w1a w1l w1c w4 w5 S = b24_jZAA call n (r24_jZAB call n m0_1_0) w0 w1a w1l w1c w4 w5 S := by kernel_rfl
theorem a24_jZAB (call : CallA) (n : Nat) (m0_1_0 : Nat) (w0 : OP) (w1a : OP) (w1l : Nat) (w1c : Cap) (w4 : Int) (S : AS) : r24_jZAB call n m0_1_0 w0 w1a w1l w1c w4 S = b24_jZAB call n (r24_lZAO call n m0_1_0) w0 w1a w1l w1c w4 S := by kernel_rfl
theorem a24_entry (call : CallA) (n : Nat) (x0 : OP) (x1a : OP) (x1l : Nat) (x1c : Cap) (S : AS) : evC E call n 24 (E.at 24 []) 0 (enumT 0 [(.ptr x0), (.sl x1a x1l x1c)]) S (retK E (E.fn 24)) = b24_entry call n (r24_lZAO call n n) x0 x1a x1l x1c S := by kernel_rfl
def J24_jZAB (call : CallA) (n : Nat) (n0_1_0 : OP → OP → Nat → Cap → Int → AS → RV) (w0 : OP) (w1a : OP) (w1l : Nat) (w1c : Cap) (w4 : Int) (S : AS) : RV := b24_jZAB call n n0_1_0 w0 w1a w1l w1c w4 S
theorem h24_jZAB (call : CallA) (n : Nat) (m0_1_0 : Nat) : r24_jZAB call n m0_1_0 = J24_jZAB call n (r24_lZAO call n m0_1_0) := by
 funext w0 w1a w1l w1c w4 S
 rw [J24_jZAB, a24_jZAB]
def J24_jZAA (call : CallA) (n : Nat) (n0_1_0 : OP → OP → Nat → Cap → Int → AS → RV) (w0 : OP) (w1a : OP) (w1l : Nat) (w1c : Cap) (w4 : Int) (w5 : Bool) (S : AS) : RV := b24_jZAA call n (J24_jZAB call n n0_1_0) w0 w1a w1l w1c w4 w5 S
theorem h24_jZAA (call : CallA) (n : Nat) (m0_1_0 : Nat) : r24_jZAA call n m0_1_0 = J24_jZAA call n (r24_lZAO call n m0_1_0) := by
 funext w0 w1a w1l w1c w4 w5 S
 rw [J24_jZAA, a24_jZAA, h24_jZAB call n m0_1_0]
def J24_lZAP (call : CallA) (n : Nat) (n0_1_0 : OP → OP → Nat → Cap → Int → AS → RV) (m : Nat) : OP → OP → Nat → Cap → Int → Bool → Int → AS → RV := Nat.rec (motive := fun _ => OP → OP → Nat → Cap → Int → Bool → Int → AS → RV) (fun _ _ _ _ _ _ _ _ => none) (fun mK ih w0 w1a w1l w1c w4 w5 w6 S => b24_lZAP call n ih (J24_jZAA call n n0_1_0) w0 w1a w1l w1c w4 w5 w6 S) m
theorem J24_lZAP_succ (call : CallA) (n : Nat) (n0_1_0 : OP → OP → Nat → Cap → Int → AS → RV) (m : Nat) (w0 : OP) (w1a : OP) (w1l : Nat) (w1c : Cap) (w4 : Int) (w5 : Bool) (w6 : Int) (S : AS) : J24_lZAP call n n0_1_0 (m + 1) w0 w1a w1l w1c w4 w5 w6 S = b24_lZAP call n (J24_lZAP call n n0_1_0 m) (J24_jZAA call n n0_1_0) w0 w1a w1l w1c w4 w5 w6 S := rfl
theorem h24_lZAP (call : CallA) (n : Nat) (m0_1_0 : Nat) (m : Nat) : r24_lZAP call n m0_1_0 m = J24_lZAP call n (r24_lZAO call n m0_1_0) m := by
 induction m with
 | zero => rfl
 | succ m ih =>
  funext w0 w1a w1l w1c w4 w5 w6 S
  rw [J24_lZAP_succ, a24_lZAP, h24_jZAA call n m0_1_0, ih]
def J24_j1 (call : CallA) (n : Nat) (w0 : OP) (S : AS) : RV := b24_j1 call n w0 S
theorem h24_j1 (call : CallA) (n : Nat) : r24_j1 call n = J24_j1 call n := by
 funext w0 S
 rw [J24_j1, a24_j1]
def J24_lZAO (call : CallA) (n : Nat) (m : Nat) : OP → OP → Nat → Cap → Int → AS → RV := Nat.rec (motive := fun _ => OP → OP → Nat → Cap → Int → AS → RV) (fun _ _ _ _ _ _ => none) (fun mK ih w0 w1a w1l w1c w4 S => b24_lZAO call n (J24_lZAP call n ih n) (J24_j1 call n ) w0 w1a w1l w1c w4 S) m
theorem J24_lZAO_succ (call : CallA) (n : Nat) (m : Nat) (w0 : OP) (w1a : OP) (w1l : Nat) (w1c : Cap) (w4 : Int) (S : AS) : J24_lZAO call n (m + 1) w0 w1a w1l w1c w4 S = b24_lZAO call n (J24_lZAP call n (J24_lZAO call n m) n) (J24_j1 call n ) w0 w1a w1l w1c w4 S := rfl
theorem h24_lZAO (call : CallA) (n : Nat) (m : Nat) : r24_lZAO call n m = J24_lZAO call n m := by
 induction m with
 | zero => rfl
 | succ m ih =>
  funext w0 w1a w1l w1c w4 S
  rw [J24_lZAO_succ, a24_lZAO, h24_lZAP call n m n, h24_j1 call n , ih]
def J24 (call : CallA) (n : Nat) (x0 : OP) (x1a : OP) (x1l : Nat) (x1c : Cap) (S : AS) : RV := b24_entry call n (J24_lZAO call n n) x0 x1a x1l x1c S
theorem run24 (o : Orc) (n : Nat) (args : List AV) (S : AS) (ho : o 24 args = none) : evF E o (n + 1) (.fn 24) args S = evC E (evF E o n) n 24 (E.at 24 []) 0 (enumT 0 args) S (retK E (E.fn 24)) := by
 rw [evF, ho]; kernel_rfl
theorem J24_eq (call : CallA) (n : Nat) (x0 : OP) (x1a : OP) (x1l : Nat) (x1c : Cap) (S : AS) : evC E call n 24 (E.at 24 []) 0 (enumT 0 [(.ptr x0), (.sl x1a x1l x1c)]) S (retK E (E.fn 24)) = J24 call n x0 x1a x1l x1c S := by
 rw [J24, a24_entry, h24_lZAO call n n]
theorem F24 {o : Orc} (n : Nat) (x0 : OP) (x1a : OP) (x1l : Nat) (x1c : Cap) (S : AS) (ho : ∀ args, o 24 args = none) : evF E o (n + 1) (.fn 24) [(.ptr x0), (.sl x1a x1l x1c)] S = J24 (evF E o n) n x0 x1a x1l x1c S := (run24 o n [(.ptr x0), (.sl x1a x1l x1c)] S (ho _)).trans (J24_eq _ _ x0 x1a x1l x1c S)
def b25_lZAb (call : CallA) (n : Nat) (jZAM : OP → OP → Nat → Cap → AS → RV) (lZAb : OP → OP → Nat → Cap → Int → OP → OP → Nat → Cap → OP → Int → AS → RV) (w6 : OP) (w7a : OP) (w7l : Nat) (w7c : Cap) (w8 : Int) (w10 : OP) (w12a : OP) (w12l : Nat) (w12c : Cap) (w13 : OP) (w14 : Int) (S : AS) : RV :=
 drawA S 19 fun b18 S19 =>
 callI .u64 call 29 [(.ptr w10)] S19 fun v21 S20 =>
 gO w13 fun p22 =>
 S20.ldn p22.1 p22.2 2 fun g23 =>
 gO w13 fun p24 =>
 S19.ldn p24.1 p24.2 2 fun g25 =>
 cond (AV.beq (.agg g25) (.agg g23)) (
 callI .i64 call 17 [(.ptr w10)] S20 fun v27 S26 =>
 gO w13 fun p28 =>
 S26.ldn p28.1 p28.2 2 fun g29 =>
 cond (AV.beq (.agg g29) (.agg g23)) (
 callT call 54 [(.ptr w10), (.int .u64 w14), (.int .u64 (IntKind.wrap .u64 (v21 + 1))), (.agg g23), (.int .i64 v27)] S26 fun v31 S30 =>
 atL v31 0 fun v32a v32l v32c =>
 atG 3 v31 1 fun g33 =>
 atB v31 2 fun v34 =>
 atI .i64 v31 3 fun v35 =>
 layA S30 (b18 + 14) (.cells [(.int .i64 0), (.int .u64 0), (.int .u64 0)]) fun S36 =>
 ifO (g33.length = 3) <|
 S36.stn (.rw (b18 + 14)) 0 g33 fun S37 =>
 cond (v35 != 0) (
 some (.tup [(.ptr none), (.sl none 0 (.ex 0)), (.int .i64 v35)], S37)) (
 cond (!v34) (
 jZAM w10 w12a w12l w12c S37) (
 drawA S37 16 fun b38 S39 =>
 gO w10 fun p40 =>
 ldL S39 p40.1 (p40.2 + 9) fun v41a v41l v41c =>
 S39.ldn (.rw (b18 + 14)) 0 3 fun g42 =>
 ifO (g42.length = 3) <|
 ifO (0 + g42.length ≤ ([(.int .i64 0), (.int .u64 0), (.int .u64 0)] : List AV).length) <|
 layA S39 (b38 + 6) (.cells (splice [(.int .i64 0), (.int .u64 0), (.int .u64 0)] 0 g42)) fun S44 =>
 appendA 3 24 S44 v41a v41l v41c 1 (firstA S44 3 1 (.sl (some (.rw (b38 + 6), 0)) 1 (.ex 1))) fun v45a v45l v45c S46 =>
 layA S46 (b38 + 10) (.cells [(.sl v32a v32l v32c)]) fun S47 =>
 appendA 1 24 S47 w12a w12l w12c 1 (firstA S47 1 1 (.sl (some (.rw (b38 + 10), 0)) 1 (.ex 1))) fun v48a v48l v48c S49 =>
 gO w10 fun p50 =>
 S49.stn p50.1 (p50.2 + 9) [(.sl v45a v45l v45c)] fun S51 =>
 S51.ldn (.rw (b18 + 14)) 1 2 fun g52 =>
 gO w13 fun p54 =>
 ifO (g52.length = 2) <|
 S51.stn p54.1 p54.2 g52 fun S53 =>
 ldI .i64 S53 (.rw (b18 + 14)) 0 fun v55 =>
 lZAb w6 w7a w7l w7c w8 w10 v48a v48l v48c w13 (IntKind.wrap .u64 (w14 + (IntKind.wrap .u64 v55))) S53))) none) none
def b25_jZAM (call : CallA) (n : Nat)  (w10 : OP) (w12a : OP) (w12l : Nat) (w12c : Cap) (S : AS) : RV :=
 gO w10 fun p56 =>
 S.ldn p56.1 (p56.2 + 3) 6 fun g57 =>
 newA S (.cells [(.int .u64 0), (.int .u64 0), (.int .u64 0), (.int .u64 0), (.int .u64 0), (.int .u64 0)]) fun b58 S59 =>
 ifO (g57.length = 6) <|
 S59.stn (.rw b58) 0 g57 fun S60 =>
 ldI .u64 S60 (.rw b58) 1 fun v61 =>
 S60.stn (.rw b58) 1 [(.int .u64 (IntKind.wrap .u64 (v61 + 1)))] fun S62 =>
 S62.ldn (.rw b58) 0 6 fun g63 =>
 callI .i64 call 38 [(.ptr w10), (.agg g63)] S62 fun v65 S64 =>
 cond (v65 != 0) (
 some (.tup [(.ptr none), (.sl none 0 (.ex 0)), (.int .i64 v65)], S64)) (
 callI .u64 call 29 [(.ptr w10)] S64 fun v67 S66 =>
 gO w10 fun p68 =>
 S66.stn p68.1 (p68.2 + 10) [(.int .u64 v67)] fun S69 =>
 some (.tup [(.ptr w10), (.sl w12a w12l w12c), (.int .i64 0)], S69))
def b25_entry (call : CallA) (n : Nat) (lZAb : OP → OP → Nat → Cap → Int → OP → OP → Nat → Cap → OP → Int → AS → RV) (x0 : AV) (x1 : Int) (x2 : Int) (S : AS) : RV :=
 callI .i64 call 40 [x0, (.int .i64 x1), (.int .i64 x2)] S fun v2 S1 =>
 cond (v2 != 0) (
 some (.tup [(.ptr none), (.sl none 0 (.ex 0)), (.int .i64 v2)], S1)) (
 cellsOf ty73 x0 fun g3 =>
 ifO (0 + g3.length ≤ ([.nilIface, (.int .i64 0), (.int .i64 0), (.int .u64 0), (.int .u64 0), (.int .u64 0), (.int .u64 0), (.int .u64 0), (.int .u64 0), (.sl none 0 (.ex 0)), (.int .u64 0), (.int .u64 0)] : List AV).length) <|
 ifO (1 + ([(.int .i64 x1)] : List AV).length ≤ (splice [.nilIface, (.int .i64 0), (.int .i64 0), (.int .u64 0), (.int .u64 0), (.int .u64 0), (.int .u64 0), (.int .u64 0), (.int .u64 0), (.sl none 0 (.ex 0)), (.int .u64 0), (.int .u64 0)] 0 g3).length) <|
 ifO (2 + ([(.int .i64 x2)] : List AV).length ≤ (splice (splice [.nilIface, (.int .i64 0), (.int .i64 0), (.int .u64 0), (.int .u64 0), (.int .u64 0), (.int .u64 0), (.int .u64 0), (.int .u64 0), (.sl none 0 (.ex 0)), (.int .u64 0), (.int .u64 0)] 0 g3) 1 [(.int .i64 x1)]).length) <|
 ifO ((splice (splice (splice [.nilIface, (.int .i64 0), (.int .i64 0), (.int .u64 0), (.int .u64 0), (.int .u64 0), (.int .u64 0), (.int .u64 0), (.int .u64 0), (.sl none 0 (.ex 0)), (.int .u64 0), (.int .u64 0)] 0 g3) 1 [(.int .i64 x1)]) 2 [(.int .i64 x2)]).length = 12) <|
 newA S1 (.cells (splice (splice (splice [.nilIface, (.int .i64 0), (.int .i64 0), (.int .u64 0), (.int .u64 0), (.int .u64 0), (.int .u64 0), (.int .u64 0), (.int .u64 0), (.sl none 0 (.ex 0)), (.int .u64 0), (.int .u64 0)] 0 g3) 1 [(.int .i64 x1)]) 2 [(.int .i64 x2)])) fun b7 S8 =>
 callI .i64 call 53 [(.ptr (some ((.rw b7), 0)))] S8 fun v10 S9 =>
 cond (v10 != 0) (
 some (.tup [(.ptr none), (.sl none 0 (.ex 0)), (.int .i64 v10)], S9)) (
 drawA S9 13 fun b11 S12 =>
 ldI .u64 S12 (.rw b7) 7 fun v13 =>
 ldI .u64 S12 (.rw b7) 8 fun v14 =>
 layA S12 (b11 + 11) (.cells [(.int .u64 0), (.int .u64 0)]) fun S15 =>
 S15.stn (.rw (b11 + 11)) 0 [(.int .u64 v13), (.int .u64 v14)] fun S16 =>
 ldI .u64 S16 (.rw b7) 5 fun v17 =>
 lZAb none none 0 (.ex 0) 0 (some ((.rw b7), 0)) none 0 (.ex 0) (some ((.rw (b11 + 11)), 0)) v17 S16))
def r25_lZAb (call : CallA) (n : Nat) (m : Nat) (w6 : OP) (w7a : OP) (w7l : Nat) (w7c : Cap) (w8 : Int) (w10 : OP) (w12a : OP) (w12l : Nat) (w12c : Cap) (w13 : OP) (w14 : Int) (S : AS) : RV := loopN (evC E call n 25 (E.at 25 [1, 1, 1, 1, 1, 1, 0, 1, 0, 0]) 0) [6, 7, 8, 10, 12, 13, 14] m [(6, (.ptr w6)), (7, (.sl w7a w7l w7c)), (8, (.int .i64 w8)), (10, (.ptr w10)), (12, (.sl w12a w12l w12c)), (13, (.ptr w13)), (14, (.int .u64 w14))] S (kBlk 0 (kSeq E call n 25 (E.at 25 [1, 1, 1, 1, 1, 1, 1]) 0 (retK E (E.fn 25))))
def r25_jZAM (call : CallA) (n : Nat) (w10 : OP) (w12a : OP) (w12l : Nat) (w12c : Cap) (S : AS) : RV := evC E call n 25 (E.at 25 [1, 1, 1, 1, 1, 1, 1]) 0 [(10, (.ptr w10)), (12, (.sl w12a w12l w12c))] S (retK E (E.fn 25))
theorem a25_lZAb (call : CallA) (n : Nat) (m : Nat) (w6 : OP) (w7a : OP) (w7l : Nat) (w7c : Cap) (w8 : Int) (w10 : OP) (w12a : OP) (w12l : Nat) (w12c : Cap) (w13 : OP) (w14 : Int) (S : AS) : r25_lZAb call n (m + 1) w6 w7a w7l w7c w8 w10 w12a w12l w12c w13 w14 S = b25_lZAb call n (r25_jZAM call n ) (r25_lZAb call n m) w6 w7a w7l w7c w8 w10 w12a w12l w12c w13 w14 S := by kernel_rfl
theorem a25_jZAM (call : CallA) (n : Nat) (w10 : OP) (w12a : OP) (w12l : Nat) (w12c : Cap) (S : AS) : r25_jZAM call n w10 w12a w12l w12c S = b25_jZAM call n w10 w12a w12l w12c S := by kernel_rfl
theorem a25_entry (call : CallA) (n : Nat) (x0 : AV) (x1 : Int) (x2 : Int) (S : AS) : evC E call n 25 (E.at 25 []) 0 (enumT 0 [x0, (.int .i64 x1), (.int .i64 x2)]) S (retK E (E.fn 25)) = b25_entry call n (r25_lZAb call n n) x0 x1 x2 S := by kernel_rfl
def J25_jZAM (call : CallA) (n : Nat) (w10 : OP) (w12a : OP) (w12l : Nat) (w12c : Cap) (S : AS) : RV := b25_jZAM call n w10 w12a w12l w12c S
theorem h25_jZAM (call : CallA) (n : Nat) : r25_jZAM call n = J25_jZAM call n := by
 funext w10 w12a w12l w12c S
 rw [J25_jZAM, a25_jZAM]
def J25_lZAb (call : CallA) (n : Nat) (m : Nat) : OP → OP → Nat → Cap → Int → OP → OP → Nat → Cap → OP → Int → AS → RV := Nat.rec (motive := fun _ => OP → OP → Nat → Cap → Int → OP → OP → Nat → Cap → OP → Int → AS → RV) (fun _ _ _ _ _ _ _ _ _ _ _ _ => none) (fun mK ih w6 w7a w7l w7c w8 w10 w12a w12l w12c w13 w14 S => b25_lZAb call n (J25_jZAM call n ) ih w6 w7a w7l w7c w8 w10 w12a w12l w12c w13 w14 S) m
theorem J25_lZAb_succ (call : CallA) (n : Nat) (m : Nat) (w6 : OP) (w7a : OP) (w7l : Nat) (w7c : Cap) (w8 : Int) (w10 : OP) (w12a : OP) (w12l : Nat) (w12c : Cap) (w13 : OP) (w14 : Int) (S : AS) : J25_lZAb call n (m + 1) w6 w7a w7l w7c w8 w10 w12a w12l w12c w13 w14 S = b25_lZAb call n (J25_jZAM call n ) (J25_lZAb call n m) w6 w7a w7l w7c w8 w10 w12a w12l w12c w13 w14 S := rfl
theorem h25_lZAb (call : CallA) (n : Nat) (m : Nat) : r25_lZAb call n m = J25_lZAb call n m := by
 induction m with
 | zero => rfl
 | succ m ih =>
  funext w6 w7a w7l w7c w8 w10 w12a w12l w12c w13 w14 S
  rw [J25_lZAb_succ, a25_lZAb, h25_jZAM call n , ih]
def J25 (call : CallA) (n : Nat) (x0 : AV) (x1 : Int) (x2 : Int) (S : AS) : RV := b25_entry call n (J25_lZAb call n n) x0 x1 x2 S
theorem run25 (o : Orc) (n : Nat) (args : List AV) (S : AS) (ho : o 25 args = none) : evF E o (n + 1) (.fn 25) args S = evC E (evF E o n) n 25 (E.at 25 []) 0 (enumT 0 args) S (retK E (E.fn 25)) := by
 rw [evF, ho]; kernel_rfl
theorem J25_eq (call : CallA) (n : Nat) (x0 : AV) (x1 : Int) (x2 : Int) (S : AS) : evC E call n 25 (E.at 25 []) 0 (enumT 0 [x0, (.int .i64 x1), (.int .i64 x2)]) S (retK E (E.fn 25)) = J25 call n x0 x1 x2 S := by
 rw [J25, a25_entry, h25_lZAb call n n]
theorem F25 {o : Orc} (n : Nat) (x0 : AV) (x1 : Int) (x2 : Int) (S : AS) (ho : ∀ args, o 25 args = none) : evF E o (n + 1) (.fn 25) [x0, (.int .i64 x1), (.int .i64 x2)] S = J25 (evF E o n) n x0 x1 x2 S := (run25 o n [x0, (.int .i64 x1), (.int .i64 x2)] S (ho _)).trans (J25_eq _ _ x0 x1 x2 S)
def b26_lZAS (call : CallA) (n : Nat) (lZAS : OP → Nat → Cap → OP → Nat → Cap → Bool → Int → AS → RV) (w0a : OP) (w0l : Nat) (w0c : Cap) (w1a : OP) (w1l : Nat) (w1c : Cap) (w4 : Bool) (w5 : Int) (S : AS) : RV :=
 cond (decide (w5 < ((w0l : Nat) : Int))) (
 ixSl 1 w0a w0l w5 fun p1 =>
 ldL S p1.1 p1.2 fun v2a v2l v2c =>
 ixSl 1 w1a w1l w5 fun p3 =>
 ldL S p3.1 p3.2 fun v4a v4l v4c =>
 callB call 55 [(.sl v2a v2l v2c), (.sl v4a v4l v4c)] S fun v6 S5 =>
 cond (!v6) (
 some ((.bool false), S5)) (
 lZAS w0a w0l w0c w1a w1l w1c w4 (IntKind.wrap .i64 (w5 + 1)) S5)) (
 some ((.bool true), S))
def b26_entry (call : CallA) (n : Nat) (lZAS : OP → Nat → Cap → OP → Nat → Cap → Bool → Int → AS → RV) (x0a : OP) (x0l : Nat) (x0c : Cap) (x1a : OP) (x1l : Nat) (x1c : Cap) (S : AS) : RV :=
 cond (((x0l : Nat) : Int) != ((x1l : Nat) : Int)) (
 some ((.bool false), S)) (
 lZAS x0a x0l x0c x1a x1l x1c false 0 S)
def r26_lZAS (call : CallA) (n : Nat) (m : Nat) (w0a : OP) (w0l : Nat) (w0c : Cap) (w1a : OP) (w1l : Nat) (w1c : Cap) (w4 : Bool) (w5 : Int) (S : AS) : RV := loopN (evC E call n 26 (E.at 26 [1, 1, 0, 1, 0, 0]) 0) [0, 1, 4, 5] m [(0, (.sl w0a w0l w0c)), (1, (.sl w1a w1l w1c)), (4, (.bool w4)), (5, (.int .i64 w5))] S (kBlk 0 (kSeq E call n 26 (E.at 26 [1, 1, 1]) 0 (retK E (E.fn 26))))
theorem a26_lZAS (call : CallA) (n : Nat) (m : Nat) (w0a : OP) (w0l : Nat) (w0c : Cap) (w1a : OP) (w1l : Nat) (w1c : Cap) (w4 : Bool) (w5 : Int) (S : AS) : r26_lZAS call n (m + 1) w0a w0l w0c w1a w1l w1c w4 w5 S = b26_lZAS call n (r26_lZAS call n m) w0a w0l w0c w1a w1l w1c w4 w5 S := by kernel_rfl
theorem a26_entry (call : CallA) (n : Nat) (x0a : OP) (x0l : Nat) (x0c : Cap) (x1a : OP) (x1l : Nat) (x1c : Cap) (S : AS) : evC E call n 26 (E.at 26 []) 0 (enumT 0 [(.sl x0a x0l x0c), (.sl x1a x1l x1c)]) S (retK E (E.fn 26)) = b26_entry call n (r26_lZAS call n n) x0a x0l x0c x1a x1l x1c S := by kernel_rfl
def J26_lZAS (call : CallA) (n : Nat) (m : Nat) : OP → Nat → Cap → OP → Nat → Cap → Bool → Int → AS → RV := Nat.rec (motive := fun _ => OP → Nat → Cap → OP → Nat → Cap → Bool → Int → AS → RV) (fun _ _ _ _ _ _ _ _ _ => none) (fun mK ih w0a w0l w0c w1a w1l w1c w4 w5 S => b26_lZAS call n ih w0a w0l w0c w1a w1l w1c w4 w5 S) m
theorem J26_lZAS_succ (call : CallA) (n : Nat) (m : Nat) (w0a : OP) (w0l : Nat) (w0c : Cap) (w1a : OP) (w1l : Nat) (w1c : Cap) (w4 : Bool) (w5 : Int) (S : AS) : J26_lZAS call n (m + 1) w0a w0l w0c w1a w1l w1c w4 w5 S = b26_lZAS call n (J26_lZAS call n m) w0a w0l w0c w1a w1l w1c w4 w5 S := rfl
theorem h26_lZAS (call : CallA) (n : Nat) (m : Nat) : r26_lZAS call n m = J26_lZAS call n m := by
 induction m with
 | zero => rfl
 | succ m ih =>
  funext w0a w0l w0c w1a w1l w1c w4 w5 S
  rw [J26_lZAS_succ, a26_lZAS, ih]
def J26 (call : CallA) (n : Nat) (x0a : OP) (x0l : Nat) (x0c : Cap) (x1a : OP) (x1l : Nat) (x1c : Cap) (S : AS) : RV := b26_entry call n (J26_lZAS call n n) x0a x0l x0c x1a x1l x1c S
theorem run26 (o : Orc) (n : Nat) (args : List AV) (S : AS) (ho : o 26 args = none) : evF E o (n + 1) (.fn 26) args S = evC E (evF E o n) n 26 (E.at 26 []) 0 (enumT 0 args) S (retK E (E.fn 26)) := by
 rw [evF, ho]; kernel_rfl
theorem J26_eq (call : CallA) (n : Nat) (x0a : OP) (x0l : Nat) (x0c : Cap) (x1a : OP) (x1l : Nat) (x1c : Cap) (S : AS) : evC E call n 26 (E.at 26 []) 0 (enumT 0 [(.sl x0a x0l x0c), (.sl x1a x1l x1c)]) S (retK E (E.fn 26)) = J26 call n x0a x0l x0c x1a x1l x1c S := by
 rw [J26, a26_entry, h26_lZAS call n n]
theorem F26 {o : Orc} (n : Nat) (x0a : OP) (x0l : Nat) (x0c : Cap) (x1a : OP) (x1l : Nat) (x1c : Cap) (S : AS) (ho : ∀ args, o 26 args = none) : evF E o (n + 1) (.fn 26) [(.sl x0a x0l x0c), (.sl x1a x1l x1c)] S = J26 (evF E o n) n x0a x0l x0c x1a x1l x1c S := (run26 o n [(.sl x0a x0l x0c), (.sl x1a x1l x1c)] S (ho _)).trans (J26_eq _ _ x0a x0l x0c x1a x1l x1c S)
def b27_entry (call : CallA) (n : Nat)  (x0 : OP) (S : AS) : RV :=
 drawA S 19 fun b1 S2 =>
 gO x0 fun p3 =>
 ldL S2 p3.1 p3.2 fun v4a v4l v4c =>
 layA S2 (b1 + 0) (.cells []) fun S5 =>
 appendA 1 16 S5 (some (.rw (b1 + 0), 0)) 0 (.ex 0) v4l (firstA S5 1 v4l (.sl v4a v4l v4c)) fun v6a v6l v6c S7 =>
 gO x0 fun p8 =>
 ldL S7 p8.1 (p8.2 + 1) fun v9a v9l v9c =>
 ldL S2 p8.1 (p8.2 + 1) fun v10a v10l v10c =>
 cond (AV.beq (.sl v10a v10l v10c) (.sl v9a v9l v9c)) (
 layA S7 (b1 + 6) (.cells []) fun S11 =>
 appendA 2 24 S11 (some (.rw (b1 + 6), 0)) 0 (.ex 0) v9l (firstA S11 2 v9l (.sl v9a v9l v9c)) fun v12a v12l v12c S13 =>
 gO x0 fun p14 =>
 ldI .i64 S13 p14.1 (p14.2 + 2) fun v15 =>
 ldI .i64 S7 p14.1 (p14.2 + 2) fun v16 =>
 cond (AV.beq (.int .i64 v16) (.int .i64 v15)) (
 ldI .i64 S2 p14.1 (p14.2 + 2) fun v17 =>
 cond (AV.beq (.int .i64 v17) (.int .i64 v15)) (
 layA S13 (b1 + 17) (.cells [(.sl v6a v6l v6c), (.sl v12a v12l v12c), (.int .i64 v15)]) fun S18 =>
 some ((.ptr (some ((.rw (b1 + 17)), 0))), S18)) none) none) none
def J27 (call : CallA) (n : Nat) (x0 : OP) (S : AS) : RV := b27_entry call n x0 S
theorem run27 (o : Orc) (n : Nat) (args : List AV) (S : AS) (ho : o 27 args = none) : evF E o (n + 1) (.fn 27) args S = evC E (evF E o n) n 27 (E.at 27 []) 0 (enumT 0 args) S (retK E (E.fn 27)) := by
 rw [evF, ho]; kernel_rfl
theorem J27_eq (call : CallA) (n : Nat) (x0 : OP) (S : AS) : evC E call n 27 (E.at 27 []) 0 (enumT 0 [(.ptr x0)]) S (retK E (E.fn 27)) = J27 call n x0 S := by kernel_rfl
def b28_entry (call : CallA) (n : Nat)  (x0 : OP) (S : AS) : RV :=
 cond x0.isNone (
 some ((.int .u64 0), S)) (
 gO x0 fun p1 =>
 ldI .u64 S p1.1 (p1.2 + 10) fun v2 =>
 some ((.int .u64 v2), S))
def J28 (call : CallA) (n : Nat) (x0 : OP) (S : AS) : RV := b28_entry call n x0 S
theorem run28 (o : Orc) (n : Nat) (args : List AV) (S : AS) (ho : o 28 args = none) : evF E o (n + 1) (.fn 28) args S = evC E (evF E o n) n 28 (E.at 28 []) 0 (enumT 0 args) S (retK E (E.fn 28)) := by
 rw [evF, ho]; kernel_rfl
theorem J28_eq (call : CallA) (n : Nat) (x0 : OP) (S : AS) : evC E call n 28 (E.at 28 []) 0 (enumT 0 [(.ptr x0)]) S (retK E (E.fn 28)) = J28 call n x0 S := by kernel_rfl
theorem F28 {o : Orc} (n : Nat) (x0 : OP) (S : AS) (ho : ∀ args, o 28 args = none) : evF E o (n + 1) (.fn 28) [(.ptr x0)] S = J28 (evF E o n) n x0 S := (run28 o n [(.ptr x0)] S (ho _)).trans (J28_eq _ _ x0 S)
def b29_entry (call : CallA) (n : Nat)  (x0 : OP) (S : AS) : RV :=
 cond x0.isNone (
 some ((.int .u64 0), S)) (
 gO x0 fun p1 =>
 ldI .u64 S p1.1 (p1.2 + 3 + 3) fun v2 =>
 gO x0 fun p3 =>
 ldL S p3.1 (p3.2 + 9) fun v4a v4l v4c =>
 some ((.int .u64 (IntKind.wrap .u64 (v2 + (IntKind.wrap .u64 ((v4l : Nat) : Int))))), S))
def J29 (call : CallA) (n : Nat) (x0 : OP) (S : AS) : RV := b29_entry call n x0 S
theorem run29 (o : Orc) (n : Nat) (args : List AV) (S : AS) (ho : o 29 args = none) : evF E o (n + 1) (.fn 29) args S = evC E (evF E o n) n 29 (E.at 29 []) 0 (enumT 0 args) S (retK E (E.fn 29)) := by
 rw [evF, ho]; kernel_rfl
theorem J29_eq (call : CallA) (n : Nat) (x0 : OP) (S : AS) : evC E call n 29 (E.at 29 []) 0 (enumT 0 [(.ptr x0)]) S (retK E (E.fn 29)) = J29 call n x0 S := by kernel_rfl
theorem F29 {o : Orc} (n : Nat) (x0 : OP) (S : AS) (ho : ∀ args, o 29 args = none) : evF E o (n + 1) (.fn 29) [(.ptr x0)] S = J29 (evF E o n) n x0 S := (run29 o n [(.ptr x0)] S (ho _)).trans (J29_eq _ _ x0 S)
def b30_lZAS (call : CallA) (n : Nat) (lZAS : Int → OP → Nat → Cap → Int → AS → RV) (w0 : Int) (w3a : OP) (w3l : Nat) (w3c : Cap) (w4 : Int) (S : AS) : RV :=
 cond (decide (w4 < ((w3l : Nat) : Int))) (
 ixSl 1 w3a w3l w4 fun p5 =>
 S.stn p5.1 p5.2 [(.int .u8 w0)] fun S6 =>
 lZAS w0 w3a w3l w3c (IntKind.wrap .i64 (w4 + 1)) S6) (
 some ((.sl w3a w3l w3c), S))
def b30_entry (call : CallA) (n : Nat) (lZAS : Int → OP → Nat → Cap → Int → AS → RV) (x0 : Int) (S : AS) : RV :=
 mkSl 1 384 384 fun l3 c4 =>
 newA S (.cells (zeros c4 [(.int .u8 0)])) fun b1 S2 =>
 lZAS x0 (some (.rw b1, 0)) l3 (.ex c4) 0 S2
def r30_lZAS (call : CallA) (n : Nat) (m : Nat) (w0 : Int) (w3a : OP) (w3l : Nat) (w3c : Cap) (w4 : Int) (S : AS) : RV := loopN (evC E call n 30 (E.at 30 [1, 1, 0, 1, 0, 0]) 0) [0, 3, 4] m [(0, (.int .u8 w0)), (3, (.sl w3a w3l w3c)), (4, (.int .i64 w4))] S (kBlk 0 (kSeq E call n 30 (E.at 30 [1, 1, 1]) 0 (retK E (E.fn 30))))
theorem a30_lZAS (call : CallA) (n : Nat) (m : Nat) (w0 : Int) (w3a : OP) (w3l : Nat) (w3c : Cap) (w4 : Int) (S : AS) : r30_lZAS call n (m + 1) w0 w3a w3l w3c w4 S = b30_lZAS call n (r30_lZAS call n m) w0 w3a w3l w3c w4 S := by kernel_rfl
theorem a30_entry (call : CallA) (n : Nat) (x0 : Int) (S : AS) : evC E call n 30 (E.at 30 []) 0 (enumT 0 [(.int .u8 x0)]) S (retK E (E.fn 30)) = b30_entry call n (r30_lZAS call n n) x0 S := by kernel_rfl
def J30_lZAS (call : CallA) (n : Nat) (m : Nat) : Int → OP → Nat → Cap → Int → AS → RV := Nat.rec (motive := fun _ => Int → OP → Nat → Cap → Int → AS → RV) (fun _ _ _ _ _ _ => none) (fun mK ih w0 w3a w3l w3c w4 S => b30_lZAS call n ih w0 w3a w3l w3c w4 S) m
theorem J30_lZAS_succ (call : CallA) (n : Nat) (m : Nat) (w0 : Int) (w3a : OP) (w3l : Nat) (w3c : Cap) (w4 : Int) (S : AS) : J30_lZAS call n (m + 1) w0 w3a w3l w3c w4 S = b30_lZAS call n (J30_lZAS call n m) w0 w3a w3l w3c w4 S := rfl
theorem h30_lZAS (call : CallA) (n : Nat) (m : Nat) : r30_lZAS call n m = J30_lZAS call n m := by
 induction m with
 | zero => rfl
 | succ m ih =>
  funext w0 w3a w3l w3c w4 S
  rw [J30_lZAS_succ, a30_lZAS, ih]
def J30 (call : CallA) (n : Nat) (x0 : Int) (S : AS) : RV := b30_entry call n (J30_lZAS call n n) x0 S
theorem run30 (o : Orc) (n : Nat) (args : List AV) (S : AS) (ho : o 30 args = none) : evF E o (n + 1) (.fn 30) args S = evC E (evF E o n) n 30 (E.at 30 []) 0 (enumT 0 args) S (retK E (E.fn 30)) := by
 rw [evF, ho]; kernel_rfl
theorem J30_eq (call : CallA) (n : Nat) (x0 : Int) (S : AS) : evC E call n 30 (E.at 30 []) 0 (enumT 0 [(.int .u8 x0)]) S (retK E (E.fn 30)) = J30 call n x0 S := by
 rw [J30, a30_entry, h30_lZAS call n n]
def b31_entry (call : CallA) (n : Nat)  (x0 : OP) (S : AS) : RV :=
 cond x0.isNone (
 some ((.int .u64 0), S)) (
 gO x0 fun p1 =>
 ldI .u64 S p1.1 (p1.2 + 3 + 1) fun v2 =>
 some ((.int .u64 v2), S))
def J31 (call : CallA) (n : Nat) (x0 : OP) (S : AS) : RV := b31_entry call n x0 S
theorem run31 (o : Orc) (n : Nat) (args : List AV) (S : AS) (ho : o 31 args = none) : evF E o (n + 1) (.fn 31) args S = evC E (evF E o n) n 31 (E.at 31 []) 0 (enumT 0 args) S (retK E (E.fn 31)) := by
 rw [evF, ho]; kernel_rfl
theorem J31_eq (call : CallA) (n : Nat) (x0 : OP) (S : AS) : evC E call n 31 (E.at 31 []) 0 (enumT 0 [(.ptr x0)]) S (retK E (E.fn 31)) = J31 call n x0 S := by kernel_rfl
theorem F31 {o : Orc} (n : Nat) (x0 : OP) (S : AS) (ho : ∀ args, o 31 args = none) : evF E o (n + 1) (.fn 31) [(.ptr x0)] S = J31 (evF E o n) n x0 S := (run31 o n [(.ptr x0)] S (ho _)).trans (J31_eq _ _ x0 S)
def b32_lZAR (call : CallA) (n : Nat) (lZAR : OP → Nat → Cap → Int → Int → AS → RV) (w0a : OP) (w0l : Nat) (w0c : Cap) (w1 : Int) (w7 : Int) (S : AS) : RV :=
 cond (decide (w7 ≥ 0)) (
 nneg (IntKind.wrap .u64 (IntKind.wrap .i64 (8 * w7))) <|
 newA S (.cells [(.int .u8 (IntKind.wrap .u8 (shrI .u64 w1 (IntKind.wrap .u64 (IntKind.wrap .i64 (8 * w7))))))]) fun b1 S2 =>
 appendA 1 1 S2 w0a w0l w0c 1 (firstA S2 1 1 (.sl (some (.rw b1, 0)) 1 (.ex 1))) fun v3a v3l v3c S4 =>
 lZAR v3a v3l v3c w1 (IntKind.wrap .i64 (w7 - 1)) S4) (
 some ((.sl w0a w0l w0c), S))
def b32_entry (call : CallA) (n : Nat) (lZAR : OP → Nat → Cap → Int → Int → AS → RV) (x0a : OP) (x0l : Nat) (x0c : Cap) (x1 : Int) (x2 : Int) (S : AS) : RV :=
 lZAR x0a x0l x0c x1 (IntKind.wrap .i64 (x2 - 1)) S
def r32_lZAR (call : CallA) (n : Nat) (m : Nat) (w0a : OP) (w0l : Nat) (w0c : Cap) (w1 : Int) (w7 : Int) (S : AS) : RV := loopN (evC E call n 32 (E.at 32 [1, 0, 1, 0, 0]) 0) [0, 1, 7] m [(0, (.sl w0a w0l w0c)), (1, (.int .u64 w1)), (7, (.int .i64 w7))] S (kBlk 0 (kSeq E call n 32 (E.at 32 [1, 1]) 0 (retK E (E.fn 32))))
theorem a32_lZAR (call : CallA) (n : Nat) (m : Nat) (w0a : OP) (w0l : Nat) (w0c : Cap) (w1 : Int) (w7 : Int) (S : AS) : r32_lZAR call n (m + 1) w0a w0l w0c w1 w7 S = b32_lZAR call n (r32_lZAR call n m) w0a w0l w0c w1 w7 S := by kernel_rfl
theorem a32_entry (call : CallA) (n : Nat) (x0a : OP) (x0l : Nat) (x0c : Cap) (x1 : Int) (x2 : Int) (S : AS) : evC E call n 32 (E.at 32 []) 0 (enumT 0 [(.sl x0a x0l x0c), (.int .u64 x1), (.int .i64 x2)]) S (retK E (E.fn 32)) = b32_entry call n (r32_lZAR call n n) x0a x0l x0c x1 x2 S := by kernel_rfl
def J32_lZAR (call : CallA) (n : Nat) (m : Nat) : OP → Nat → Cap → Int → Int → AS → RV := Nat.rec (motive := fun _ => OP → Nat → Cap → Int → Int → AS → RV) (fun _ _ _ _ _ _ => none) (fun mK ih w0a w0l w0c w1 w7 S => b32_lZAR call n ih w0a w0l w0c w1 w7 S) m
theorem J32_lZAR_succ (call : CallA) (n : Nat) (m : Nat) (w0a : OP) (w0l : Nat) (w0c : Cap) (w1 : Int) (w7 : Int) (S : AS) : J32_lZAR call n (m + 1) w0a w0l w0c w1 w7 S = b32_lZAR call n (J32_lZAR call n m) w0a w0l w0c w1 w7 S := rfl
theorem h32_lZAR (call : CallA) (n : Nat) (m : Nat) : r32_lZAR call n m = J32_lZAR call n m := by
 induction m with
 | zero => rfl
 | succ m ih =>
  funext w0a w0l w0c w1 w7 S
  rw [J32_lZAR_succ, a32_lZAR, ih]
def J32 (call : CallA) (n : Nat) (x0a : OP) (x0l : Nat) (x0c : Cap) (x1 : Int) (x2 : Int) (S : AS) : RV := b32_entry call n (J32_lZAR call n n) x0a x0l x0c x1 x2 S
theorem run32 (o : Orc) (n : Nat) (args : List AV) (S : AS) (ho : o 32 args = none) : evF E o (n + 1) (.fn 32) args S = evC E (evF E o n) n 32 (E.at 32 []) 0 (enumT 0 args) S (retK E (E.fn 32)) := by
 rw [evF, ho]; kernel_rfl
theorem J32_eq (call : CallA) (n : Nat) (x0a : OP) (x0l : Nat) (x0c : Cap) (x1 : Int) (x2 : Int) (S : AS) : evC E call n 32 (E.at 32 []) 0 (enumT 0 [(.sl x0a x0l x0c), (.int .u64 x1), (.int .i64 x2)]) S (retK E (E.fn 32)) = J32 call n x0a x0l x0c x1 x2 S := by
 rw [J32, a32_entry, h32_lZAR call n n]
theorem F32 {o : Orc} (n : Nat) (x0a : OP) (x0l : Nat) (x0c : Cap) (x1 : Int) (x2 : Int) (S : AS) (ho : ∀ args, o 32 args = none) : evF E o (n + 1) (.fn 32) [(.sl x0a x0l x0c), (.int .u64 x1), (.int .i64 x2)] S = J32 (evF E o n) n x0a x0l x0c x1 x2 S := (run32 o n [(.sl x0a x0l x0c), (.int .u64 x1), (.int .i64 x2)] S (ho _)).trans (J32_eq _ _ x0a x0l x0c x1 x2 S)
def b33_lZAW (call : CallA) (n : Nat) (lZAW : OP → Nat → Cap → Int → OP → Nat → Cap → OP → Nat → Cap → Int → Int → AS → RV) (jZAJ : OP → Nat → Cap → AS → RV) (w2a : OP) (w2l : Nat) (w2c : Cap) (w3 : Int) (w4a : OP) (w4l : Nat) (w4c : Cap) (w19a : OP) (w19l : Nat) (w19c : Cap) (w20 : Int) (w21 : Int) (S : AS) : RV :=
 cond (decide (w21 < w20)) (
 ixSl 2 w19a w19l w21 fun p3 =>
 S.ldn p3.1 p3.2 2 fun g4 =>
 newA S (.cells [(.int .i64 0), (.sl none 0 (.ex 0))]) fun b5 S6 =>
 ifO (g4.length = 2) <|
 S6.stn (.rw b5) 0 g4 fun S7 =>
 ldI .i64 S7 (.rw b5) 0 fun v8 =>
 cond (decide (v8 < 0)) (
 some (.tup [(.sl none 0 (.ex 0)), (.int .i64 82)], S7)) (
 ldI .i64 S7 (.rw b5) 0 fun v9 =>
 cond (decide (v9 ≥ 2147483648)) (
 some (.tup [(.sl none 0 (.ex 0)), (.int .i64 82)], S7)) (
 ldL S7 (.rw b5) 1 fun v10a v10l v10c =>
 cond (((v10l : Nat) : Int) != 384) (
 some (.tup [(.sl none 0 (.ex 0)), (.int .i64 82)], S7)) (
 ldI .i64 S7 (.rw b5) 0 fun v11 =>
 callL call 56 [(.sl w4a w4l w4c), (.int .u64 (IntKind.wrap .u64 v11)), (.int .i64 4)] S7 fun v13a v13l v13c S12 =>
 ldL S12 (.rw b5) 1 fun v14a v14l v14c =>
 ldL S7 (.rw b5) 1 fun v15a v15l v15c =>
 cond (AV.beq (.sl v15a v15l v15c) (.sl v14a v14l v14c)) (
 appendA 1 1 S12 v13a v13l v13c v14l (firstA S12 1 v14l (.sl v14a v14l v14c)) fun v16a v16l v16c S17 =>
 lZAW w2a w2l w2c w3 v16a v16l v16c w19a w19l w19c w20 (IntKind.wrap .i64 (w21 + 1)) S17) none)))) (
 jZAJ w4a w4l w4c S)
def b33_jZAJ (call : CallA) (n : Nat)  (w4a : OP) (w4l : Nat) (w4c : Cap) (S : AS) : RV :=
 some (.tup [(.sl w4a w4l w4c), (.int .i64 0)], S)
def b33_entry (call : CallA) (n : Nat) (lZAW : OP → Nat → Cap → Int → OP → Nat → Cap → OP → Nat → Cap → Int → Int → AS → RV) (x0a : OP) (x0l : Nat) (x0c : Cap) (S : AS) : RV :=
 cond (((x0l : Nat) : Int) == 0) (
 some (.tup [(.sl none 0 (.ex 0)), (.int .i64 82)], S)) (
 cond (decide (((x0l : Nat) : Int) > 64)) (
 some (.tup [(.sl none 0 (.ex 0)), (.int .i64 82)], S)) (
 callL call 56 [(.sl none 0 (.ex 0)), (.int .u64 (IntKind.wrap .u64 ((x0l : Nat) : Int))), (.int .i64 4)] S fun v2a v2l v2c S1 =>
 lZAW none 0 (.ex 0) 0 v2a v2l v2c x0a x0l x0c ((x0l : Nat) : Int) 0 S1))
def r33_lZAW (call : CallA) (n : Nat) (m : Nat) (w2a : OP) (w2l : Nat) (w2c : Cap) (w3 : Int) (w4a : OP) (w4l : Nat) (w4c : Cap) (w19a : OP) (w19l : Nat) (w19c : Cap) (w20 : Int) (w21 : Int) (S : AS) : RV := loopN (evC E call n 33 (E.at 33 [1, 1, 1, 0, 1, 0, 0]) 0) [2, 3, 4, 19, 20, 21] m [(2, (.sl w2a w2l w2c)), (3, (.int .i64 w3)), (4, (.sl w4a w4l w4c)), (19, (.sl w19a w19l w19c)), (20, (.int .i64 w20)), (21, (.int .i64 w21))] S (kBlk 0 (kSeq E call n 33 (E.at 33 [1, 1, 1, 1]) 0 (retK E (E.fn 33))))
def r33_jZAJ (call : CallA) (n : Nat) (w4a : OP) (w4l : Nat) (w4c : Cap) (S : AS) : RV := evC E call n 33 (E.at 33 [1, 1, 1, 1]) 0 [(4, (.sl w4a w4l w4c))] S (retK E (E.fn 33))
theorem a33_lZAW (call : CallA) (n : Nat) (m : Nat) (w2a : OP) (w2l : Nat) (w2c : Cap) (w3 : Int) (w4a : OP) (w4l : Nat) (w4c : Cap) (w19a : OP) (w19l : Nat) (w19c : Cap) (w20 : Int) (w21 : Int) (S : AS) : r33_lZAW call n (m + 1) w2a w2l w2c w3 w4a w4l w4c w19a w19l w19c w20 w21 S = b33_lZAW call n (r33_lZAW call n m) (r33_jZAJ call n ) w2a w2l w2c w3 w4a w4l w4c w19a w19l w19c w20 w21 S := by kernel_rfl
theorem a33_jZAJ (call : CallA) (n : Nat) (w4a : OP) (w4l : Nat) (w4c : Cap) (S : AS) : r33_jZAJ call n w4a w4l w4c S = b33_jZAJ call n w4a w4l w4c S := by kernel_rfl
theorem a33_entry (call : CallA) (n : Nat) (x0a : OP) (x0l : Nat) (x0c : Cap) (S : AS) : evC E call n 33 (E.at 33 []) 0 (enumT 0 [(.sl x0a x0l x0c)]) S (retK E (E.fn 33)) = b33_entry call n (r33_lZAW call n n) x0a x0l x0c S := by kernel_rfl
def J33_jZAJ (call : CallA) (n : Nat) (w4a : OP) (w4l : Nat) (w4c : Cap) (S : AS) : RV := b33_jZAJ call n w4a w4l w4c S
theorem h33_jZAJ (call : CallA) (n : Nat) : r33_jZAJ call n = J33_jZAJ call n := by
 funext w4a w4l w4c S
 rw [J33_jZAJ, a33_jZAJ]
def J33_lZAW (call : CallA) (n : Nat) (m : Nat) : OP → Nat → Cap → Int → OP → Nat → Cap → OP → Nat → Cap → Int → Int → AS → RV := Nat.rec (motive := fun _ => OP → Nat → Cap → Int → OP → Nat → Cap → OP → Nat → Cap → Int → Int → AS → RV) (fun _ _ _ _ _ _ _ _ _ _ _ _ _ => none) (fun mK ih w2a w2l w2c w3 w4a w4l w4c w19a w19l w19c w20 w21 S => b33_lZAW call n ih (J33_jZAJ call n ) w2a w2l w2c w3 w4a w4l w4c w19a w19l w19c w20 w21 S) m
theorem J33_lZAW_succ (call : CallA) (n : Nat) (m : Nat) (w2a : OP) (w2l : Nat) (w2c : Cap) (w3 : Int) (w4a : OP) (w4l : Nat) (w4c : Cap) (w19a : OP) (w19l : Nat) (w19c : Cap) (w20 : Int) (w21 : Int) (S : AS) : J33_lZAW call n (m + 1) w2a w2l w2c w3 w4a w4l w4c w19a w19l w19c w20 w21 S = b33_lZAW call n (J33_lZAW call n m) (J33_jZAJ call n ) w2a w2l w2c w3 w4a w4l w4c w19a w19l w19c w20 w21 S := rfl
theorem h33_lZAW (call : CallA) (n : Nat) (m : Nat) : r33_lZAW call n m = J33_lZAW call n m := by
 induction m with
 | zero => rfl
 | succ m ih =>
  funext w2a w2l w2c w3 w4a w4l w4c w19a w19l w19c w20 w21 S
  rw [J33_lZAW_succ, a33_lZAW, h33_jZAJ call n , ih]
def J33 (call : CallA) (n : Nat) (x0a : OP) (x0l : Nat) (x0c : Cap) (S : AS) : RV := b33_entry call n (J33_lZAW call n n) x0a x0l x0c S
theorem run33 (o : Orc) (n : Nat) (args : List AV) (S : AS) (ho : o 33 args = none) : evF E o (n + 1) (.fn 33) args S = evC E (evF E o n) n 33 (E.at 33 []) 0 (enumT 0 args) S (retK E (E.fn 33)) := by
 rw [evF, ho]; kernel_rfl
theorem J33_eq (call : CallA) (n : Nat) (x0a : OP) (x0l : Nat) (x0c : Cap) (S : AS) : evC E call n 33 (E.at 33 []) 0 (enumT 0 [(.sl x0a x0l x0c)]) S (retK E (E.fn 33)) = J33 call n x0a x0l x0c S := by
 rw [J33, a33_entry, h33_lZAW call n n]
theorem F33 {o : Orc} (n : Nat) (x0a : OP) (x0l : Nat) (x0c : Cap) (S : AS) (ho : ∀ args, o 33 args = none) : evF E o (n + 1) (.fn 33) [(.sl x0a x0l x0c)] S = J33 (evF E o n) n x0a x0l x0c S := (run33 o n [(.sl x0a x0l x0c)] S (ho _)).trans (J33_eq _ _ x0a x0l x0c S)
def b34_lZAS (call : CallA) (n : Nat) (lZAS : Int → OP → Nat → Cap → Int → Int → AS → RV) (w3 : Int) (w14a : OP) (w14l : Nat) (w14c : Cap) (w15 : Int) (w16 : Int) (S : AS) : RV :=
 cond (decide (w16 < w15)) (
 ixSl 3 w14a w14l w16 fun p5 =>
 S.ldn p5.1 p5.2 3 fun g6 =>
 newA S (.cells [(.int .i64 0), (.int .u64 0), (.int .u64 0)]) fun b7 S8 =>
 ifO (g6.length = 3) <|
 S8.stn (.rw b7) 0 g6 fun S9 =>
 ldI .i64 S9 (.rw b7) 0 fun v10 =>
 lZAS (IntKind.wrap .u64 (w3 + (IntKind.wrap .u64 v10))) w14a w14l w14c w15 (IntKind.wrap .i64 (w16 + 1)) S9) (
 some ((.int .u64 w3), S))
def b34_entry (call : CallA) (n : Nat) (lZAS : Int → OP → Nat → Cap → Int → Int → AS → RV) (x0 : OP) (S : AS) : RV :=
 gO x0 fun p1 =>
 ldI .u64 S p1.1 (p1.2 + 3 + 2) fun v2 =>
 gO x0 fun p3 =>
 ldL S p3.1 (p3.2 + 9) fun v4a v4l v4c =>
 lZAS v2 v4a v4l v4c ((v4l : Nat) : Int) 0 S
def r34_lZAS (call : CallA) (n : Nat) (m : Nat) (w3 : Int) (w14a : OP) (w14l : Nat) (w14c : Cap) (w15 : Int) (w16 : Int) (S : AS) : RV := loopN (evC E call n 34 (E.at 34 [1, 1, 0, 1, 0, 0]) 0) [3, 14, 15, 16] m [(3, (.int .u64 w3)), (14, (.sl w14a w14l w14c)), (15, (.int .i64 w15)), (16, (.int .i64 w16))] S (kBlk 0 (kSeq E call n 34 (E.at 34 [1, 1, 1]) 0 (retK E (E.fn 34))))
theorem a34_lZAS (call : CallA) (n : Nat) (m : Nat) (w3 : Int) (w14a : OP) (w14l : Nat) (w14c : Cap) (w15 : Int) (w16 : Int) (S : AS) : r34_lZAS call n (m + 1) w3 w14a w14l w14c w15 w16 S = b34_lZAS call n (r34_lZAS call n m) w3 w14a w14l w14c w15 w16 S := by kernel_rfl
theorem a34_entry (call : CallA) (n : Nat) (x0 : OP) (S : AS) : evC E call n 34 (E.at 34 []) 0 (enumT 0 [(.ptr x0)]) S (retK E (E.fn 34)) = b34_entry call n (r34_lZAS call n n) x0 S := by kernel_rfl
def J34_lZAS (call : CallA) (n : Nat) (m : Nat) : Int → OP → Nat → Cap → Int → Int → AS → RV := Nat.rec (motive := fun _ => Int → OP → Nat → Cap → Int → Int → AS → RV) (fun _ _ _ _ _ _ _ => none) (fun mK ih w3 w14a w14l w14c w15 w16 S => b34_lZAS call n ih w3 w14a w14l w14c w15 w16 S) m
theorem J34_lZAS_succ (call : CallA) (n : Nat) (m : Nat) (w3 : Int) (w14a : OP) (w14l : Nat) (w14c : Cap) (w15 : Int) (w16 : Int) (S : AS) : J34_lZAS call n (m + 1) w3 w14a w14l w14c w15 w16 S = b34_lZAS call n (J34_lZAS call n m) w3 w14a w14l w14c w15 w16 S := rfl
theorem h34_lZAS (call : CallA) (n : Nat) (m : Nat) : r34_lZAS call n m = J34_lZAS call n m := by
 induction m with
 | zero => rfl
 | succ m ih =>
  funext w3 w14a w14l w14c w15 w16 S
  rw [J34_lZAS_succ, a34_lZAS, ih]
def J34 (call : CallA) (n : Nat) (x0 : OP) (S : AS) : RV := b34_entry call n (J34_lZAS call n n) x0 S
theorem run34 (o : Orc) (n : Nat) (args : List AV) (S : AS) (ho : o 34 args = none) : evF E o (n + 1) (.fn 34) args S = evC E (evF E o n) n 34 (E.at 34 []) 0 (enumT 0 args) S (retK E (E.fn 34)) := by
 rw [evF, ho]; kernel_rfl
theorem J34_eq (call : CallA) (n : Nat) (x0 : OP) (S : AS) : evC E call n 34 (E.at 34 []) 0 (enumT 0 [(.ptr x0)]) S (retK E (E.fn 34)) = J34 call n x0 S := by
 rw [J34, a34_entry, h34_lZAS call n n]
theorem F34 {o : Orc} (n : Nat) (x0 : OP) (S : AS) (ho : ∀ args, o 34 args = none) : evF E o (n + 1) (.fn 34) [(.ptr x0)] S = J34 (evF E o n) n x0 S := (run34 o n [(.ptr x0)] S (ho _)).trans (J34_eq _ _ x0 S)
def b35_lZAR (call : CallA) (n : Nat) (lZAR : Bool → OP → Nat → Cap → Int → Int → AS → RV) (w2 : Bool) (w5a : OP) (w5l : Nat) (w5c : Cap) (w6 : Int) (w7 : Int) (S : AS) : RV :=
 cond (decide (w7 < w6)) (
 ixSl 1 w5a w5l w7 fun p1 =>
 ldI .u64 S p1.1 p1.2 fun v2 =>
 cond (decide (v2 > 4611686018427387904)) (
 some ((.bool false), S)) (
 lZAR w2 w5a w5l w5c w6 (IntKind.wrap .i64 (w7 + 1)) S)) (
 some ((.bool true), S))
def b35_entry (call : CallA) (n : Nat) (lZAR : Bool → OP → Nat → Cap → Int → Int → AS → RV) (x0a : OP) (x0l : Nat) (x0c : Cap) (S : AS) : RV :=
 lZAR false x0a x0l x0c ((x0l : Nat) : Int) 0 S
def r35_lZAR (call : CallA) (n : Nat) (m : Nat) (w2 : Bool) (w5a : OP) (w5l : Nat) (w5c : Cap) (w6 : Int) (w7 : Int) (S : AS) : RV := loopN (evC E call n 35 (E.at 35 [1, 0, 1, 0, 0]) 0) [2, 5, 6, 7] m [(2, (.bool w2)), (5, (.sl w5a w5l w5c)), (6, (.int .i64 w6)), (7, (.int .i64 w7))] S (kBlk 0 (kSeq E call n 35 (E.at 35 [1, 1]) 0 (retK E (E.fn 35))))
theorem a35_lZAR (call : CallA) (n : Nat) (m : Nat) (w2 : Bool) (w5a : OP) (w5l : Nat) (w5c : Cap) (w6 : Int) (w7 : Int) (S : AS) : r35_lZAR call n (m + 1) w2 w5a w5l w5c w6 w7 S = b35_lZAR call n (r35_lZAR call n m) w2 w5a w5l w5c w6 w7 S := by kernel_rfl
theorem a35_entry (call : CallA) (n : Nat) (x0a : OP) (x0l : Nat) (x0c : Cap) (S : AS) : evC E call n 35 (E.at 35 []) 0 (enumT 0 [(.sl x0a x0l x0c)]) S (retK E (E.fn 35)) = b35_entry call n (r35_lZAR call n n) x0a x0l x0c S := by kernel_rfl
def J35_lZAR (call : CallA) (n : Nat) (m : Nat) : Bool → OP → Nat → Cap → Int → Int → AS → RV := Nat.rec (motive := fun _ => Bool → OP → Nat → Cap → Int → Int → AS → RV) (fun _ _ _ _ _ _ _ => none) (fun mK ih w2 w5a w5l w5c w6 w7 S => b35_lZAR call n ih w2 w5a w5l w5c w6 w7 S) m
theorem J35_lZAR_succ (call : CallA) (n : Nat) (m : Nat) (w2 : Bool) (w5a : OP) (w5l : Nat) (w5c : Cap) (w6 : Int) (w7 : Int) (S : AS) : J35_lZAR call n (m + 1) w2 w5a w5l w5c w6 w7 S = b35_lZAR call n (J35_lZAR call n m) w2 w5a w5l w5c w6 w7 S := rfl
theorem h35_lZAR (call : CallA) (n : Nat) (m : Nat) : r35_lZAR call n m = J35_lZAR call n m := by
 induction m with
 | zero => rfl
 | succ m ih =>
  funext w2 w5a w5l w5c w6 w7 S
  rw [J35_lZAR_succ, a35_lZAR, ih]
def J35 (call : CallA) (n : Nat) (x0a : OP) (x0l : Nat) (x0c : Cap) (S : AS) : RV := b35_entry call n (J35_lZAR call n n) x0a x0l x0c S
theorem run35 (o : Orc) (n : Nat) (args : List AV) (S : AS) (ho : o 35 args = none) : evF E o (n + 1) (.fn 35) args S = evC E (evF E o n) n 35 (E.at 35 []) 0 (enumT 0 args) S (retK E (E.fn 35)) := by
 rw [evF, ho]; kernel_rfl
theorem J35_eq (call : CallA) (n : Nat) (x0a : OP) (x0l : Nat) (x0c : Cap) (S : AS) : evC E call n 35 (E.at 35 []) 0 (enumT 0 [(.sl x0a x0l x0c)]) S (retK E (E.fn 35)) = J35 call n x0a x0l x0c S := by
 rw [J35, a35_entry, h35_lZAR call n n]
theorem F35 {o : Orc} (n : Nat) (x0a : OP) (x0l : Nat) (x0c : Cap) (S : AS) (ho : ∀ args, o 35 args = none) : evF E o (n + 1) (.fn 35) [(.sl x0a x0l x0c)] S = J35 (evF E o n) n x0a x0l x0c S := (run35 o n [(.sl x0a x0l x0c)] S (ho _)).trans (J35_eq _ _ x0a x0l x0c S)
end
end Go.Jn
