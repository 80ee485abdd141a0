/- Plain readings of the functions, and that they are what the evaluator does: by program. -/
import Derived.Test.YtcepfilbiahdjaaGrRes
import Derived.Test.YtcepfilbiahdjaaENV
import Derived.KernelRfl
set_option maxRecDepth 100000
set_option linter.unusedVariables false
namespace Go.Jn
open Go.Gr
noncomputable section
def b76_lZAW (call : CallA) (n : Nat) (lZAW : OP → Nat → Cap → OP → Nat → Cap → Int → OP → Nat → Cap → Int → AS → RV) (jZAJ : OP → Nat → Cap → AS → RV) (w0a : OP) (w0l : Nat) (w0c : Cap) (w2a : OP) (w2l : Nat) (w2c : Cap) (w3 : Int) (w4a : OP) (w4l : Nat) (w4c : Cap) (w5 : Int) (S : AS) : RV :=
 cond (decide (w5 < ((w0l : Nat) : Int))) (
 callI .u64 call 73 [(.sl w0a w0l w0c), (.int .i64 w5), (.int .i64 4)] S fun v8 S7 =>
 cond (decide (v8 > 2147483647)) (
 some (.tup [(.sl none 0 (.ex 0)), (.int .i64 82)], S7)) (
 newA S7 (.cells []) fun b9 S10 =>
 slSl 1 w0a w0l w0c (some (IntKind.wrap .i64 (w5 + 4))) (some (IntKind.wrap .i64 ((IntKind.wrap .i64 (w5 + 4)) + 384))) none fun v11a v11l v11c =>
 appendA 1 1 S10 (some (.rw b9, 0)) 0 (.ex 0) v11l (firstA S10 1 v11l (.sl v11a v11l v11c)) fun v12a v12l v12c S13 =>
 newA S13 (.cells [(.int .i64 (IntKind.wrap .i64 v8)), (.sl v12a v12l v12c)]) fun b14 S15 =>
 appendA 2 32 S15 w4a w4l w4c 1 (firstA S15 2 1 (.sl (some (.rw b14, 0)) 1 (.ex 1))) fun v16a v16l v16c S17 =>
 lZAW w0a w0l w0c w2a w2l w2c w3 v16a v16l v16c (IntKind.wrap .i64 ((IntKind.wrap .i64 (w5 + 384)) + 4)) S17)) (
 jZAJ w4a w4l w4c S)
def b76_jZAJ (call : CallA) (n : Nat)  (w4a : OP) (w4l : Nat) (w4c : Cap) (S : AS) : RV :=
 some (.tup [(.sl w4a w4l w4c), (.int .i64 0)], S)
def b76_entry (call : CallA) (n : Nat) (lZAW : OP → Nat → Cap → OP → Nat → Cap → Int → OP → Nat → Cap → Int → AS → RV) (x0a : OP) (x0l : Nat) (x0c : Cap) (S : AS) : RV :=
 cond (decide (((x0l : Nat) : Int) < 4)) (
 some (.tup [(.sl none 0 (.ex 0)), (.int .i64 82)], S)) (
 callI .u64 call 73 [(.sl x0a x0l x0c), (.int .i64 0), (.int .i64 4)] S fun v2 S1 =>
 cond (decide (v2 > 64)) (
 some (.tup [(.sl none 0 (.ex 0)), (.int .i64 82)], S1)) (
 callI .u64 call 73 [(.sl x0a x0l x0c), (.int .i64 0), (.int .i64 4)] S1 fun v4 S3 =>
 cond (decide (v4 < 1)) (
 some (.tup [(.sl none 0 (.ex 0)), (.int .i64 82)], S3)) (
 callI .u64 call 73 [(.sl x0a x0l x0c), (.int .i64 0), (.int .i64 4)] S3 fun v6 S5 =>
 cond (((x0l : Nat) : Int) != (IntKind.wrap .i64 (4 + (IntKind.wrap .i64 (388 * (IntKind.wrap .i64 v6)))))) (
 some (.tup [(.sl none 0 (.ex 0)), (.int .i64 82)], S5)) (
 lZAW x0a x0l x0c none 0 (.ex 0) 0 none 0 (.ex 0) 4 S5))))
def r76_lZAW (call : CallA) (n : Nat) (m : Nat) (w0a : OP) (w0l : Nat) (w0c : Cap) (w2a : OP) (w2l : Nat) (w2c : Cap) (w3 : Int) (w4a : OP) (w4l : Nat) (w4c : Cap) (w5 : Int) (S : AS) : RV := loopN (evC E call n 76 (E.at 76 [1, 1, 1, 0, 1, 0, 0]) 0) [0, 2, 3, 4, 5] m [(0, (.sl w0a w0l w0c)), (2, (.sl w2a w2l w2c)), (3, (.int .i64 w3)), (4, (.sl w4a w4l w4c)), (5, (.int .i64 w5))] S (kBlk 0 (kSeq E call n 76 (E.at 76 [1, 1, 1, 1]) 0 (retK E (E.fn 76))))
def r76_jZAJ (call : CallA) (n : Nat) (w4a : OP) (w4l : Nat) (w4c : Cap) (S : AS) : RV := evC E call n 76 (E.at 76 [1, 1, 1, 1]) 0 [(4, (.sl w4a w4l w4c))] S (retK E (E.fn 76))
theorem a76_lZAW (call : CallA) (n : Nat) (m : Nat) (w0a : OP) (w0l : Nat) (w0c : Cap) (w2a : OP) (w2l : Nat) (w2c : Cap) (w3 : Int) (w4a : OP) (w4l : Nat) (w4c : Cap) (w5 : Int) (S : AS) : r76_lZAW call n (m + 1) w0a w0l w0c w2a w2l w2c w3 w4a w4l w4c w5 S = b76_lZAW call n (r76_lZAW call n m) (r76_jZAJ call n ) w0a w0l w0c w2a w2l w2c w3 w4a w4l w4c w5 S := by kernel_rfl
theorem a76_jZAJ (call : CallA) (n : Nat) (w4a : OP) (w4l : Nat) (w4c : Cap) (S : AS) : r76_jZAJ call n w4a w4l w4c S = b76_jZAJ call n w4a w4l w4c S := by kernel_rfl
theorem a76_entry (call : CallA) (n : Nat) (x0a : OP) (x0l : Nat) (x0c : Cap) (S : AS) : evC E call n 76 (E.at 76 []) 0 (enumT 0 [(.sl x0a x0l x0c)]) S (retK E (E.fn 76)) = b76_entry call n (r76_lZAW call n n) x0a x0l x0c S := by kernel_rfl
def J76_jZAJ (call : CallA) (n : Nat) (w4a : OP) (w4l : Nat) (w4c : Cap) (S : AS) : RV := b76_jZAJ call n w4a w4l w4c S
theorem h76_jZAJ (call : CallA) (n : Nat) : r76_jZAJ call n = J76_jZAJ call n := by
 funext w4a w4l w4c S
 rw [J76_jZAJ, a76_jZAJ]
def J76_lZAW (call : CallA) (n : Nat) (m : Nat) : OP → Nat → Cap → OP → Nat → Cap → Int → OP → Nat → Cap → Int → AS → RV := Nat.rec (motive := fun _ => OP → Nat → Cap → OP → Nat → Cap → Int → OP → Nat → Cap → Int → AS → RV) (fun _ _ _ _ _ _ _ _ _ _ _ _ => none) (fun mK ih w0a w0l w0c w2a w2l w2c w3 w4a w4l w4c w5 S => b76_lZAW call n ih (J76_jZAJ call n ) w0a w0l w0c w2a w2l w2c w3 w4a w4l w4c w5 S) m
theorem J76_lZAW_succ (call : CallA) (n : Nat) (m : Nat) (w0a : OP) (w0l : Nat) (w0c : Cap) (w2a : OP) (w2l : Nat) (w2c : Cap) (w3 : Int) (w4a : OP) (w4l : Nat) (w4c : Cap) (w5 : Int) (S : AS) : J76_lZAW call n (m + 1) w0a w0l w0c w2a w2l w2c w3 w4a w4l w4c w5 S = b76_lZAW call n (J76_lZAW call n m) (J76_jZAJ call n ) w0a w0l w0c w2a w2l w2c w3 w4a w4l w4c w5 S := rfl
theorem h76_lZAW (call : CallA) (n : Nat) (m : Nat) : r76_lZAW call n m = J76_lZAW call n m := by
 induction m with
 | zero => rfl
 | succ m ih =>
  funext w0a w0l w0c w2a w2l w2c w3 w4a w4l w4c w5 S
  rw [J76_lZAW_succ, a76_lZAW, h76_jZAJ call n , ih]
def J76 (call : CallA) (n : Nat) (x0a : OP) (x0l : Nat) (x0c : Cap) (S : AS) : RV := b76_entry call n (J76_lZAW call n n) x0a x0l x0c S
theorem run76 (o : Orc) (n : Nat) (args : List AV) (S : AS) (ho : o 76 args = none) : evF E o (n + 1) (.fn 76) args S = evC E (evF E o n) n 76 (E.at 76 []) 0 (enumT 0 args) S (retK E (E.fn 76)) := by
 rw [evF, ho]; kernel_rfl
theorem J76_eq (call : CallA) (n : Nat) (x0a : OP) (x0l : Nat) (x0c : Cap) (S : AS) : evC E call n 76 (E.at 76 []) 0 (enumT 0 [(.sl x0a x0l x0c)]) S (retK E (E.fn 76)) = J76 call n x0a x0l x0c S := by
 rw [J76, a76_entry, h76_lZAW call n n]
theorem F76 {o : Orc} (n : Nat) (x0a : OP) (x0l : Nat) (x0c : Cap) (S : AS) (ho : ∀ args, o 76 args = none) : evF E o (n + 1) (.fn 76) [(.sl x0a x0l x0c)] S = J76 (evF E o n) n x0a x0l x0c S := (run76 o n [(.sl x0a x0l x0c)] S (ho _)).trans (J76_eq _ _ x0a x0l x0c S)
def b77_lZAS (call : CallA) (n : Nat) (lZAS : Int → OP → Nat → Cap → Int → Int → AS → RV) (w3 : Int) (w6a : OP) (w6l : Nat) (w6c : Cap) (w7 : Int) (w8 : Int) (S : AS) : RV :=
 cond (decide (w8 < w7)) (
 ixSl 1 w6a w6l w8 fun p1 =>
 ldI .u8 S p1.1 p1.2 fun v2 =>
 lZAS (orI .u64 (shlI .u64 w3 8) (IntKind.wrap .u64 v2)) w6a w6l w6c w7 (IntKind.wrap .i64 (w8 + 1)) S) (
 some ((.int .u64 w3), S))
def b77_entry (call : CallA) (n : Nat) (lZAS : Int → OP → Nat → Cap → Int → Int → AS → RV) (x0a : OP) (x0l : Nat) (x0c : Cap) (S : AS) : RV :=
 lZAS 0 x0a x0l x0c ((x0l : Nat) : Int) 0 S
def r77_lZAS (call : CallA) (n : Nat) (m : Nat) (w3 : Int) (w6a : OP) (w6l : Nat) (w6c : Cap) (w7 : Int) (w8 : Int) (S : AS) : RV := loopN (evC E call n 77 (E.at 77 [1, 1, 0, 1, 0, 0]) 0) [3, 6, 7, 8] m [(3, (.int .u64 w3)), (6, (.sl w6a w6l w6c)), (7, (.int .i64 w7)), (8, (.int .i64 w8))] S (kBlk 0 (kSeq E call n 77 (E.at 77 [1, 1, 1]) 0 (retK E (E.fn 77))))
theorem a77_lZAS (call : CallA) (n : Nat) (m : Nat) (w3 : Int) (w6a : OP) (w6l : Nat) (w6c : Cap) (w7 : Int) (w8 : Int) (S : AS) : r77_lZAS call n (m + 1) w3 w6a w6l w6c w7 w8 S = b77_lZAS call n (r77_lZAS call n m) w3 w6a w6l w6c w7 w8 S := by kernel_rfl
theorem a77_entry (call : CallA) (n : Nat) (x0a : OP) (x0l : Nat) (x0c : Cap) (S : AS) : evC E call n 77 (E.at 77 []) 0 (enumT 0 [(.sl x0a x0l x0c)]) S (retK E (E.fn 77)) = b77_entry call n (r77_lZAS call n n) x0a x0l x0c S := by kernel_rfl
def J77_lZAS (call : CallA) (n : Nat) (m : Nat) : Int → OP → Nat → Cap → Int → Int → AS → RV := Nat.rec (motive := fun _ => Int → OP → Nat → Cap → Int → Int → AS → RV) (fun _ _ _ _ _ _ _ => none) (fun mK ih w3 w6a w6l w6c w7 w8 S => b77_lZAS call n ih w3 w6a w6l w6c w7 w8 S) m
theorem J77_lZAS_succ (call : CallA) (n : Nat) (m : Nat) (w3 : Int) (w6a : OP) (w6l : Nat) (w6c : Cap) (w7 : Int) (w8 : Int) (S : AS) : J77_lZAS call n (m + 1) w3 w6a w6l w6c w7 w8 S = b77_lZAS call n (J77_lZAS call n m) w3 w6a w6l w6c w7 w8 S := rfl
theorem h77_lZAS (call : CallA) (n : Nat) (m : Nat) : r77_lZAS call n m = J77_lZAS call n m := by
 induction m with
 | zero => rfl
 | succ m ih =>
  funext w3 w6a w6l w6c w7 w8 S
  rw [J77_lZAS_succ, a77_lZAS, ih]
def J77 (call : CallA) (n : Nat) (x0a : OP) (x0l : Nat) (x0c : Cap) (S : AS) : RV := b77_entry call n (J77_lZAS call n n) x0a x0l x0c S
theorem run77 (o : Orc) (n : Nat) (args : List AV) (S : AS) (ho : o 77 args = none) : evF E o (n + 1) (.fn 77) args S = evC E (evF E o n) n 77 (E.at 77 []) 0 (enumT 0 args) S (retK E (E.fn 77)) := by
 rw [evF, ho]; kernel_rfl
theorem J77_eq (call : CallA) (n : Nat) (x0a : OP) (x0l : Nat) (x0c : Cap) (S : AS) : evC E call n 77 (E.at 77 []) 0 (enumT 0 [(.sl x0a x0l x0c)]) S (retK E (E.fn 77)) = J77 call n x0a x0l x0c S := by
 rw [J77, a77_entry, h77_lZAS call n n]
theorem F77 {o : Orc} (n : Nat) (x0a : OP) (x0l : Nat) (x0c : Cap) (S : AS) (ho : ∀ args, o 77 args = none) : evF E o (n + 1) (.fn 77) [(.sl x0a x0l x0c)] S = J77 (evF E o n) n x0a x0l x0c S := (run77 o n [(.sl x0a x0l x0c)] S (ho _)).trans (J77_eq _ _ x0a x0l x0c S)
def b78_lZAS (call : CallA) (n : Nat) (lZAS : OP → Nat → Cap → OP → Nat → Cap → Bool → Int → Int → AS → RV) (w0a : OP) (w0l : Nat) (w0c : Cap) (w1a : OP) (w1l : Nat) (w1c : Cap) (w4 : Bool) (w12 : Int) (w13 : Int) (S : AS) : RV :=
 cond (decide (w13 < w12)) (
 ixSl 1 w0a w0l w13 fun p1 =>
 ldI .u8 S p1.1 p1.2 fun v2 =>
 ixSl 1 w1a w1l w13 fun p3 =>
 ldI .u8 S p3.1 p3.2 fun v4 =>
 cond (v2 != v4) (
 some ((.bool false), S)) (
 lZAS w0a w0l w0c w1a w1l w1c w4 w12 (IntKind.wrap .i64 (w13 + 1)) S)) (
 some ((.bool true), S))
def b78_entry (call : CallA) (n : Nat) (lZAS : OP → Nat → Cap → OP → Nat → Cap → Bool → Int → Int → AS → RV) (x0a : OP) (x0l : Nat) (x0c : Cap) (x1a : OP) (x1l : Nat) (x1c : Cap) (S : AS) : RV :=
 cond (((x0l : Nat) : Int) != ((x1l : Nat) : Int)) (
 some ((.bool false), S)) (
 lZAS x0a x0l x0c x1a x1l x1c false ((x0l : Nat) : Int) 0 S)
def r78_lZAS (call : CallA) (n : Nat) (m : Nat) (w0a : OP) (w0l : Nat) (w0c : Cap) (w1a : OP) (w1l : Nat) (w1c : Cap) (w4 : Bool) (w12 : Int) (w13 : Int) (S : AS) : RV := loopN (evC E call n 78 (E.at 78 [1, 1, 0, 1, 0, 0]) 0) [0, 1, 4, 12, 13] m [(0, (.sl w0a w0l w0c)), (1, (.sl w1a w1l w1c)), (4, (.bool w4)), (12, (.int .i64 w12)), (13, (.int .i64 w13))] S (kBlk 0 (kSeq E call n 78 (E.at 78 [1, 1, 1]) 0 (retK E (E.fn 78))))
theorem a78_lZAS (call : CallA) (n : Nat) (m : Nat) (w0a : OP) (w0l : Nat) (w0c : Cap) (w1a : OP) (w1l : Nat) (w1c : Cap) (w4 : Bool) (w12 : Int) (w13 : Int) (S : AS) : r78_lZAS call n (m + 1) w0a w0l w0c w1a w1l w1c w4 w12 w13 S = b78_lZAS call n (r78_lZAS call n m) w0a w0l w0c w1a w1l w1c w4 w12 w13 S := by kernel_rfl
theorem a78_entry (call : CallA) (n : Nat) (x0a : OP) (x0l : Nat) (x0c : Cap) (x1a : OP) (x1l : Nat) (x1c : Cap) (S : AS) : evC E call n 78 (E.at 78 []) 0 (enumT 0 [(.sl x0a x0l x0c), (.sl x1a x1l x1c)]) S (retK E (E.fn 78)) = b78_entry call n (r78_lZAS call n n) x0a x0l x0c x1a x1l x1c S := by kernel_rfl
def J78_lZAS (call : CallA) (n : Nat) (m : Nat) : OP → Nat → Cap → OP → Nat → Cap → Bool → Int → Int → AS → RV := Nat.rec (motive := fun _ => OP → Nat → Cap → OP → Nat → Cap → Bool → Int → Int → AS → RV) (fun _ _ _ _ _ _ _ _ _ _ => none) (fun mK ih w0a w0l w0c w1a w1l w1c w4 w12 w13 S => b78_lZAS call n ih w0a w0l w0c w1a w1l w1c w4 w12 w13 S) m
theorem J78_lZAS_succ (call : CallA) (n : Nat) (m : Nat) (w0a : OP) (w0l : Nat) (w0c : Cap) (w1a : OP) (w1l : Nat) (w1c : Cap) (w4 : Bool) (w12 : Int) (w13 : Int) (S : AS) : J78_lZAS call n (m + 1) w0a w0l w0c w1a w1l w1c w4 w12 w13 S = b78_lZAS call n (J78_lZAS call n m) w0a w0l w0c w1a w1l w1c w4 w12 w13 S := rfl
theorem h78_lZAS (call : CallA) (n : Nat) (m : Nat) : r78_lZAS call n m = J78_lZAS call n m := by
 induction m with
 | zero => rfl
 | succ m ih =>
  funext w0a w0l w0c w1a w1l w1c w4 w12 w13 S
  rw [J78_lZAS_succ, a78_lZAS, ih]
def J78 (call : CallA) (n : Nat) (x0a : OP) (x0l : Nat) (x0c : Cap) (x1a : OP) (x1l : Nat) (x1c : Cap) (S : AS) : RV := b78_entry call n (J78_lZAS call n n) x0a x0l x0c x1a x1l x1c S
theorem run78 (o : Orc) (n : Nat) (args : List AV) (S : AS) (ho : o 78 args = none) : evF E o (n + 1) (.fn 78) args S = evC E (evF E o n) n 78 (E.at 78 []) 0 (enumT 0 args) S (retK E (E.fn 78)) := by
 rw [evF, ho]; kernel_rfl
theorem J78_eq (call : CallA) (n : Nat) (x0a : OP) (x0l : Nat) (x0c : Cap) (x1a : OP) (x1l : Nat) (x1c : Cap) (S : AS) : evC E call n 78 (E.at 78 []) 0 (enumT 0 [(.sl x0a x0l x0c), (.sl x1a x1l x1c)]) S (retK E (E.fn 78)) = J78 call n x0a x0l x0c x1a x1l x1c S := by
 rw [J78, a78_entry, h78_lZAS call n n]
theorem F78 {o : Orc} (n : Nat) (x0a : OP) (x0l : Nat) (x0c : Cap) (x1a : OP) (x1l : Nat) (x1c : Cap) (S : AS) (ho : ∀ args, o 78 args = none) : evF E o (n + 1) (.fn 78) [(.sl x0a x0l x0c), (.sl x1a x1l x1c)] S = J78 (evF E o n) n x0a x0l x0c x1a x1l x1c S := (run78 o n [(.sl x0a x0l x0c), (.sl x1a x1l x1c)] S (ho _)).trans (J78_eq _ _ x0a x0l x0c x1a x1l x1c S)
def b79_entry (call : CallA) (n : Nat)  (x0a : OP) (x0l : Nat) (x0c : Cap) (S : AS) : RV :=
 cond x0a.isNone (
 some ((.sl none 0 (.ex 0)), S)) (
 newA S (.cells []) fun b1 S2 =>
 appendA 1 1 S2 (some (.rw b1, 0)) 0 (.ex 0) x0l (firstA S2 1 x0l (.sl x0a x0l x0c)) fun v3a v3l v3c S4 =>
 some ((.sl v3a v3l v3c), S4))
def J79 (call : CallA) (n : Nat) (x0a : OP) (x0l : Nat) (x0c : Cap) (S : AS) : RV := b79_entry call n x0a x0l x0c S
theorem run79 (o : Orc) (n : Nat) (args : List AV) (S : AS) (ho : o 79 args = none) : evF E o (n + 1) (.fn 79) args S = evC E (evF E o n) n 79 (E.at 79 []) 0 (enumT 0 args) S (retK E (E.fn 79)) := by
 rw [evF, ho]; kernel_rfl
theorem J79_eq (call : CallA) (n : Nat) (x0a : OP) (x0l : Nat) (x0c : Cap) (S : AS) : evC E call n 79 (E.at 79 []) 0 (enumT 0 [(.sl x0a x0l x0c)]) S (retK E (E.fn 79)) = J79 call n x0a x0l x0c S := by kernel_rfl
theorem F79 {o : Orc} (n : Nat) (x0a : OP) (x0l : Nat) (x0c : Cap) (S : AS) (ho : ∀ args, o 79 args = none) : evF E o (n + 1) (.fn 79) [(.sl x0a x0l x0c)] S = J79 (evF E o n) n x0a x0l x0c S := (run79 o n [(.sl x0a x0l x0c)] S (ho _)).trans (J79_eq _ _ x0a x0l x0c S)
def b80_entry (call : CallA) (n : Nat)  (x0a : OP) (x0l : Nat) (x0c : Cap) (S : AS) : RV :=
 newA S (.cells [(.int .u64 0), (.int .u64 0), (.int .u64 0), (.int .u64 0), (.int .i64 0), (.int .i64 0), (.sl none 0 (.ex 0))]) fun b1 S2 =>
 cond (((x0l : Nat) : Int) != 384) (
 S2.stn (.rw b1) 0 [(.int .u64 0), (.int .u64 0), (.int .u64 0), (.int .u64 0), (.int .i64 0), (.int .i64 0), (.sl none 0 (.ex 0))] fun S3 =>
 S3.ldn (.rw b1) 0 7 fun g4 =>
 some (.tup [(.agg g4), (.int .i64 81)], S3)) (
 callI .u64 call 73 [(.sl x0a x0l x0c), (.int .i64 40), (.int .i64 2)] S2 fun v6 S5 =>
 cond (decide ((IntKind.wrap .i64 v6) > 336)) (
 S5.stn (.rw b1) 0 [(.int .u64 0), (.int .u64 0), (.int .u64 0), (.int .u64 0), (.int .i64 0), (.int .i64 0), (.sl none 0 (.ex 0))] fun S7 =>
 S7.ldn (.rw b1) 0 7 fun g8 =>
 some (.tup [(.agg g8), (.int .i64 81)], S7)) (
 drawA S5 23 fun b9 S10 =>
 callI .u64 call 73 [(.sl x0a x0l x0c), (.int .i64 4), (.int .i64 8)] S10 fun v12 S11 =>
 callI .u64 call 73 [(.sl x0a x0l x0c), (.int .i64 12), (.int .i64 8)] S11 fun v14 S13 =>
 callI .u64 call 73 [(.sl x0a x0l x0c), (.int .i64 20), (.int .i64 8)] S13 fun v16 S15 =>
 callI .u64 call 73 [(.sl x0a x0l x0c), (.int .i64 28), (.int .i64 8)] S15 fun v18 S17 =>
 callI .u64 call 73 [(.sl x0a x0l x0c), (.int .i64 36), (.int .i64 2)] S17 fun v20 S19 =>
 callI .u64 call 73 [(.sl x0a x0l x0c), (.int .i64 38), (.int .i64 2)] S19 fun v22 S21 =>
 slSl 1 x0a x0l x0c (some 48) (some (IntKind.wrap .i64 (48 + (IntKind.wrap .i64 v6)))) none fun v23a v23l v23c =>
 layA S21 (b9 + 14) (.cells []) fun S24 =>
 appendA 1 1 S24 (some (.rw (b9 + 14), 0)) 0 (.ex 0) v23l (firstA S24 1 v23l (.sl v23a v23l v23c)) fun v25a v25l v25c S26 =>
 layA S26 (b9 + 21) (.cells [(.int .u64 0), (.int .u64 0), (.int .u64 0), (.int .u64 0), (.int .i64 0), (.int .i64 0), (.sl none 0 (.ex 0))]) fun S27 =>
 S27.stn (.rw (b9 + 21)) 0 [(.int .u64 v12), (.int .u64 v14), (.int .u64 v16), (.int .u64 v18), (.int .i64 (IntKind.wrap .i64 v20)), (.int .i64 (IntKind.wrap .i64 v22)), (.sl v25a v25l v25c)] fun S28 =>
 S28.ldn (.rw (b9 + 21)) 0 7 fun g29 =>
 callT call 66 [(.agg g29)] S28 fun v31 S30 =>
 atL v31 0 fun v32a v32l v32c =>
 atI .i64 v31 1 fun v33 =>
 cond (v33 != 0) (
 S30.stn (.rw b1) 0 [(.int .u64 0), (.int .u64 0), (.int .u64 0), (.int .u64 0), (.int .i64 0), (.int .i64 0), (.sl none 0 (.ex 0))] fun S34 =>
 S34.ldn (.rw b1) 0 7 fun g35 =>
 some (.tup [(.agg g35), (.int .i64 81)], S34)) (
 bytesStr S30 v32a v32l fun s36 =>
 bytesStr S30 x0a x0l fun s37 =>
 cond (!(s36 == s37)) (
 S30.stn (.rw b1) 0 [(.int .u64 0), (.int .u64 0), (.int .u64 0), (.int .u64 0), (.int .i64 0), (.int .i64 0), (.sl none 0 (.ex 0))] fun S38 =>
 S38.ldn (.rw b1) 0 7 fun g39 =>
 some (.tup [(.agg g39), (.int .i64 81)], S38)) (
 S30.ldn (.rw (b9 + 21)) 0 7 fun g40 =>
 ifO (g40.length = 7) <|
 S30.stn (.rw b1) 0 g40 fun S41 =>
 S41.ldn (.rw b1) 0 7 fun g42 =>
 some (.tup [(.agg g42), (.int .i64 0)], S41)))))
def J80 (call : CallA) (n : Nat) (x0a : OP) (x0l : Nat) (x0c : Cap) (S : AS) : RV := b80_entry call n x0a x0l x0c S
theorem run80 (o : Orc) (n : Nat) (args : List AV) (S : AS) (ho : o 80 args = none) : evF E o (n + 1) (.fn 80) args S = evC E (evF E o n) n 80 (E.at 80 []) 0 (enumT 0 args) S (retK E (E.fn 80)) := by
 rw [evF, ho]; kernel_rfl
theorem J80_eq (call : CallA) (n : Nat) (x0a : OP) (x0l : Nat) (x0c : Cap) (S : AS) : evC E call n 80 (E.at 80 []) 0 (enumT 0 [(.sl x0a x0l x0c)]) S (retK E (E.fn 80)) = J80 call n x0a x0l x0c S := by kernel_rfl
theorem F80 {o : Orc} (n : Nat) (x0a : OP) (x0l : Nat) (x0c : Cap) (S : AS) (ho : ∀ args, o 80 args = none) : evF E o (n + 1) (.fn 80) [(.sl x0a x0l x0c)] S = J80 (evF E o n) n x0a x0l x0c S := (run80 o n [(.sl x0a x0l x0c)] S (ho _)).trans (J80_eq _ _ x0a x0l x0c S)
def b97_entry (call : CallA) (n : Nat)  (x0 : OP) (S : AS) : RV :=
 gO x0 fun p1 =>
 ldL S p1.1 p1.2 fun v2a v2l v2c =>
 some ((.int .i64 ((v2l : Nat) : Int)), S)
def J97 (call : CallA) (n : Nat) (x0 : OP) (S : AS) : RV := b97_entry call n x0 S
theorem run97 (o : Orc) (n : Nat) (args : List AV) (S : AS) (ho : o 97 args = none) : evF E o (n + 1) (.fn 97) args S = evC E (evF E o n) n 97 (E.at 97 []) 0 (enumT 0 args) S (retK E (E.fn 97)) := by
 rw [evF, ho]; kernel_rfl
theorem J97_eq (call : CallA) (n : Nat) (x0 : OP) (S : AS) : evC E call n 97 (E.at 97 []) 0 (enumT 0 [(.ptr x0)]) S (retK E (E.fn 97)) = J97 call n x0 S := by kernel_rfl
theorem F97 {o : Orc} (n : Nat) (x0 : OP) (S : AS) (ho : ∀ args, o 97 args = none) : evF E o (n + 1) (.fn 97) [(.ptr x0)] S = J97 (evF E o n) n x0 S := (run97 o n [(.ptr x0)] S (ho _)).trans (J97_eq _ _ x0 S)
end
end Go.Jn
