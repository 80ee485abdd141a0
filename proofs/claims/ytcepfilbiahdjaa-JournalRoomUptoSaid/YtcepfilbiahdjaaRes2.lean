/- Plain readings of the functions, and that they are what the evaluator does: by program. -/
import Derived.Test.YtcepfilbiahdjaaGrRes
import Derived.Test.YtcepfilbiahdjaaENV
import Derived.KernelRfl
set_option maxRecDepth 100000
set_option linter.unusedVariables false
namespace Go.Jn
open Go.Gr
noncomputable section
def b32_l1_0_1_0 (call : CallA) (n : Nat)  (l1_0_1_0 : Option Pos → Nat → Cap → Int → Int → AS → Option (AV × AS)) (w0a : Option Pos) (w0l : Nat) (w0c : Cap) (w1 : Int) (w7 : Int) (S : AS) : Option (AV × AS) :=
 cond (decide (w7 ≥ 0)) (
 nneg (IntKind.wrap .u64 (IntKind.wrap .i64 (8 * w7))) <|
 newA S (.cells [(.int .u8 (IntKind.wrap .u8 (shrI .u64 w1 (IntKind.wrap .u64 (IntKind.wrap .i64 (8 * w7))))))]) fun b1 S2 =>
 appendA 1 1 S2 w0a w0l w0c 1 (firstA S2 1 1 (.sl (some (.rw b1, 0)) 1 (.ex 1))) fun v3a v3l v3c S4 =>
 l1_0_1_0 v3a v3l v3c w1 (IntKind.wrap .i64 (w7 - 1)) S4) (
 some ((.sl w0a w0l w0c), S))

def b32_entry (call : CallA) (n : Nat)  (l1_0_1_0 : Option Pos → Nat → Cap → Int → Int → AS → Option (AV × AS)) (x0a : Option Pos) (x0l : Nat) (x0c : Cap) (x1 : Int) (x2 : Int) (S : AS) : Option (AV × AS) :=
 l1_0_1_0 x0a x0l x0c x1 (IntKind.wrap .i64 (x2 - 1)) S

def r32_l1_0_1_0 (call : CallA) (n : Nat)  (m : Nat) (w0a : Option Pos) (w0l : Nat) (w0c : Cap) (w1 : Int) (w7 : Int) (S : AS) : Option (AV × AS) := loopN (evC E call n 32 (E.at 32 [1, 0, 1, 0, 0]) 0) [0, 1, 7] m [(0, (.sl w0a w0l w0c)), (1, (.int .u64 w1)), (7, (.int .i64 w7))] S (kBlk 0 (kSeq E call n 32 (E.at 32 [1, 1]) 0 (retK E (E.fn 32))))
theorem a32_l1_0_1_0 (call : CallA) (n : Nat)  (m : Nat) (w0a : Option Pos) (w0l : Nat) (w0c : Cap) (w1 : Int) (w7 : Int) (S : AS) : r32_l1_0_1_0 call n  (m + 1) w0a w0l w0c w1 w7 S = b32_l1_0_1_0 call n (r32_l1_0_1_0 call n  m) w0a w0l w0c w1 w7 S := by kernel_rfl
theorem a32_entry (call : CallA) (n : Nat) (x0a : Option Pos) (x0l : Nat) (x0c : Cap) (x1 : Int) (x2 : Int) (S : AS) : evC E call n 32 (E.at 32 []) 0 (enumT 0 [(.sl x0a x0l x0c), (.int .u64 x1), (.int .i64 x2)]) S (retK E (E.fn 32)) = b32_entry call n (r32_l1_0_1_0 call n  n) x0a x0l x0c x1 x2 S := by kernel_rfl
def J32_l1_0_1_0 (call : CallA) (n : Nat)  (m : Nat) : Option Pos → Nat → Cap → Int → Int → AS → Option (AV × AS) := Nat.rec (motive := fun _ => Option Pos → Nat → Cap → Int → Int → AS → Option (AV × AS)) (fun _ _ _ _ _ _ => none) (fun mK ih w0a w0l w0c w1 w7 S => b32_l1_0_1_0 call n ih w0a w0l w0c w1 w7 S) m
theorem J32_l1_0_1_0_succ (call : CallA) (n : Nat)  (m : Nat) (w0a : Option Pos) (w0l : Nat) (w0c : Cap) (w1 : Int) (w7 : Int) (S : AS) : J32_l1_0_1_0 call n  (m + 1) w0a w0l w0c w1 w7 S = b32_l1_0_1_0 call n (J32_l1_0_1_0 call n  m) w0a w0l w0c w1 w7 S := rfl
theorem h32_l1_0_1_0 (call : CallA) (n : Nat)  (m : Nat) : r32_l1_0_1_0 call n  m = J32_l1_0_1_0 call n  m := by
  induction m with
  | zero => rfl
  | succ m ih =>
    funext w0a w0l w0c w1 w7 S
    rw [J32_l1_0_1_0_succ, a32_l1_0_1_0, ih]
def J32 (call : CallA) (n : Nat) (x0a : Option Pos) (x0l : Nat) (x0c : Cap) (x1 : Int) (x2 : Int) (S : AS) : Option (AV × AS) := b32_entry call n (J32_l1_0_1_0 call n  n) x0a x0l x0c x1 x2 S
theorem run32 (o : Orc) (n : Nat) (args : List AV) (S : AS) (ho : o 32 args = none) : evF E o (n + 1) (.fn 32) args S = evC E (evF E o n) n 32 (E.at 32 []) 0 (enumT 0 args) S (retK E (E.fn 32)) := by
  rw [evF, ho]; kernel_rfl
theorem J32_eq (call : CallA) (n : Nat) (x0a : Option Pos) (x0l : Nat) (x0c : Cap) (x1 : Int) (x2 : Int) (S : AS) : evC E call n 32 (E.at 32 []) 0 (enumT 0 [(.sl x0a x0l x0c), (.int .u64 x1), (.int .i64 x2)]) S (retK E (E.fn 32)) = J32 call n x0a x0l x0c x1 x2 S := by
  rw [J32, a32_entry, h32_l1_0_1_0 call n  n]
theorem F32 {o : Orc} (n : Nat) (x0a : Option Pos) (x0l : Nat) (x0c : Cap) (x1 : Int) (x2 : Int) (S : AS) (ho : ∀ args, o 32 args = none) : evF E o (n + 1) (.fn 32) [(.sl x0a x0l x0c), (.int .u64 x1), (.int .i64 x2)] S = J32 (evF E o n) n x0a x0l x0c x1 x2 S := (run32 o n [(.sl x0a x0l x0c), (.int .u64 x1), (.int .i64 x2)] S (ho _)).trans (J32_eq _ _ x0a x0l x0c x1 x2 S)
def b33_l1_1_1_0_1_0 (call : CallA) (n : Nat)  (l1_1_1_0_1_0 : Option Pos → Nat → Cap → Int → Option Pos → Nat → Cap → Option Pos → Nat → Cap → Int → Int → AS → Option (AV × AS)) (j1_1_1_1 : Option Pos → Nat → Cap → AS → Option (AV × AS)) (w2a : Option Pos) (w2l : Nat) (w2c : Cap) (w3 : Int) (w4a : Option Pos) (w4l : Nat) (w4c : Cap) (w19a : Option Pos) (w19l : Nat) (w19c : Cap) (w20 : Int) (w21 : Int) (S : AS) : Option (AV × AS) :=
 cond (decide (w21 < w20)) (
 ixSl 2 w19a w19l w21 fun p3 =>
 S.ldn p3.1 p3.2 2 fun g4 =>
 newA S (.cells [(.int .i64 0), (.sl none 0 (.ex 0))]) fun b5 S6 =>
 ifO (g4.length = 2) <|
 S6.stn (.rw b5) 0 g4 fun S7 =>
 ldI .i64 S7 (.rw b5) 0 fun v8 =>
 cond (decide (v8 < 0)) (
 some (.tup [(.sl none 0 (.ex 0)), (.int .i64 82)], S7)) (
 ldI .i64 S7 (.rw b5) 0 fun v9 =>
 cond (decide (v9 ≥ 2147483648)) (
 some (.tup [(.sl none 0 (.ex 0)), (.int .i64 82)], S7)) (
 ldL S7 (.rw b5) 1 fun v10a v10l v10c =>
 cond (((v10l : Nat) : Int) != 384) (
 some (.tup [(.sl none 0 (.ex 0)), (.int .i64 82)], S7)) (
 ldI .i64 S7 (.rw b5) 0 fun v11 =>
 callL call 56 [(.sl w4a w4l w4c), (.int .u64 (IntKind.wrap .u64 v11)), (.int .i64 4)] S7 fun v13a v13l v13c S12 =>
 ldL S12 (.rw b5) 1 fun v14a v14l v14c =>
 ldL S7 (.rw b5) 1 fun v15a v15l v15c =>
 cond (AV.beq (.sl v15a v15l v15c) (.sl v14a v14l v14c)) (
 appendA 1 1 S12 v13a v13l v13c v14l (firstA S12 1 v14l (.sl v14a v14l v14c)) fun v16a v16l v16c S17 =>
 l1_1_1_0_1_0 w2a w2l w2c w3 v16a v16l v16c w19a w19l w19c w20 (IntKind.wrap .i64 (w21 + 1)) S17) none)))) (
 j1_1_1_1 w4a w4l w4c S)

def b33_j1_1_1_1 (call : CallA) (n : Nat)   (w4a : Option Pos) (w4l : Nat) (w4c : Cap) (S : AS) : Option (AV × AS) :=
 some (.tup [(.sl w4a w4l w4c), (.int .i64 0)], S)

def b33_entry (call : CallA) (n : Nat)  (l1_1_1_0_1_0 : Option Pos → Nat → Cap → Int → Option Pos → Nat → Cap → Option Pos → Nat → Cap → Int → Int → AS → Option (AV × AS)) (x0a : Option Pos) (x0l : Nat) (x0c : Cap) (S : AS) : Option (AV × AS) :=
 cond (((x0l : Nat) : Int) == 0) (
 some (.tup [(.sl none 0 (.ex 0)), (.int .i64 82)], S)) (
 cond (decide (((x0l : Nat) : Int) > 64)) (
 some (.tup [(.sl none 0 (.ex 0)), (.int .i64 82)], S)) (
 callL call 56 [(.sl none 0 (.ex 0)), (.int .u64 (IntKind.wrap .u64 ((x0l : Nat) : Int))), (.int .i64 4)] S fun v2a v2l v2c S1 =>
 l1_1_1_0_1_0 none 0 (.ex 0) 0 v2a v2l v2c x0a x0l x0c ((x0l : Nat) : Int) 0 S1))

def r33_l1_1_1_0_1_0 (call : CallA) (n : Nat)  (m : Nat) (w2a : Option Pos) (w2l : Nat) (w2c : Cap) (w3 : Int) (w4a : Option Pos) (w4l : Nat) (w4c : Cap) (w19a : Option Pos) (w19l : Nat) (w19c : Cap) (w20 : Int) (w21 : Int) (S : AS) : Option (AV × AS) := loopN (evC E call n 33 (E.at 33 [1, 1, 1, 0, 1, 0, 0]) 0) [2, 3, 4, 19, 20, 21] m [(2, (.sl w2a w2l w2c)), (3, (.int .i64 w3)), (4, (.sl w4a w4l w4c)), (19, (.sl w19a w19l w19c)), (20, (.int .i64 w20)), (21, (.int .i64 w21))] S (kBlk 0 (kSeq E call n 33 (E.at 33 [1, 1, 1, 1]) 0 (retK E (E.fn 33))))
def r33_j1_1_1_1 (call : CallA) (n : Nat)  (w4a : Option Pos) (w4l : Nat) (w4c : Cap) (S : AS) : Option (AV × AS) := evC E call n 33 (E.at 33 [1, 1, 1, 1]) 0 [(4, (.sl w4a w4l w4c))] S (retK E (E.fn 33))
theorem a33_l1_1_1_0_1_0 (call : CallA) (n : Nat)  (m : Nat) (w2a : Option Pos) (w2l : Nat) (w2c : Cap) (w3 : Int) (w4a : Option Pos) (w4l : Nat) (w4c : Cap) (w19a : Option Pos) (w19l : Nat) (w19c : Cap) (w20 : Int) (w21 : Int) (S : AS) : r33_l1_1_1_0_1_0 call n  (m + 1) w2a w2l w2c w3 w4a w4l w4c w19a w19l w19c w20 w21 S = b33_l1_1_1_0_1_0 call n (r33_l1_1_1_0_1_0 call n  m) (r33_j1_1_1_1 call n ) w2a w2l w2c w3 w4a w4l w4c w19a w19l w19c w20 w21 S := by kernel_rfl
theorem a33_j1_1_1_1 (call : CallA) (n : Nat)  (w4a : Option Pos) (w4l : Nat) (w4c : Cap) (S : AS) : r33_j1_1_1_1 call n  w4a w4l w4c S = b33_j1_1_1_1 call n  w4a w4l w4c S := by kernel_rfl
theorem a33_entry (call : CallA) (n : Nat) (x0a : Option Pos) (x0l : Nat) (x0c : Cap) (S : AS) : evC E call n 33 (E.at 33 []) 0 (enumT 0 [(.sl x0a x0l x0c)]) S (retK E (E.fn 33)) = b33_entry call n (r33_l1_1_1_0_1_0 call n  n) x0a x0l x0c S := by kernel_rfl
def J33_j1_1_1_1 (call : CallA) (n : Nat)  (w4a : Option Pos) (w4l : Nat) (w4c : Cap) (S : AS) : Option (AV × AS) := b33_j1_1_1_1 call n  w4a w4l w4c S
theorem h33_j1_1_1_1 (call : CallA) (n : Nat)  : r33_j1_1_1_1 call n  = J33_j1_1_1_1 call n  := by
  funext w4a w4l w4c S
  rw [J33_j1_1_1_1, a33_j1_1_1_1]
def J33_l1_1_1_0_1_0 (call : CallA) (n : Nat)  (m : Nat) : Option Pos → Nat → Cap → Int → Option Pos → Nat → Cap → Option Pos → Nat → Cap → Int → Int → AS → Option (AV × AS) := Nat.rec (motive := fun _ => Option Pos → Nat → Cap → Int → Option Pos → Nat → Cap → Option Pos → Nat → Cap → Int → Int → AS → Option (AV × AS)) (fun _ _ _ _ _ _ _ _ _ _ _ _ _ => none) (fun mK ih w2a w2l w2c w3 w4a w4l w4c w19a w19l w19c w20 w21 S => b33_l1_1_1_0_1_0 call n ih (J33_j1_1_1_1 call n ) w2a w2l w2c w3 w4a w4l w4c w19a w19l w19c w20 w21 S) m
theorem J33_l1_1_1_0_1_0_succ (call : CallA) (n : Nat)  (m : Nat) (w2a : Option Pos) (w2l : Nat) (w2c : Cap) (w3 : Int) (w4a : Option Pos) (w4l : Nat) (w4c : Cap) (w19a : Option Pos) (w19l : Nat) (w19c : Cap) (w20 : Int) (w21 : Int) (S : AS) : J33_l1_1_1_0_1_0 call n  (m + 1) w2a w2l w2c w3 w4a w4l w4c w19a w19l w19c w20 w21 S = b33_l1_1_1_0_1_0 call n (J33_l1_1_1_0_1_0 call n  m) (J33_j1_1_1_1 call n ) w2a w2l w2c w3 w4a w4l w4c w19a w19l w19c w20 w21 S := rfl
theorem h33_l1_1_1_0_1_0 (call : CallA) (n : Nat)  (m : Nat) : r33_l1_1_1_0_1_0 call n  m = J33_l1_1_1_0_1_0 call n  m := by
  induction m with
  | zero => rfl
  | succ m ih =>
    funext w2a w2l w2c w3 w4a w4l w4c w19a w19l w19c w20 w21 S
    rw [J33_l1_1_1_0_1_0_succ, a33_l1_1_1_0_1_0, h33_j1_1_1_1 call n , ih]
def J33 (call : CallA) (n : Nat) (x0a : Option Pos) (x0l : Nat) (x0c : Cap) (S : AS) : Option (AV × AS) := b33_entry call n (J33_l1_1_1_0_1_0 call n  n) x0a x0l x0c S
theorem run33 (o : Orc) (n : Nat) (args : List AV) (S : AS) (ho : o 33 args = none) : evF E o (n + 1) (.fn 33) args S = evC E (evF E o n) n 33 (E.at 33 []) 0 (enumT 0 args) S (retK E (E.fn 33)) := by
  rw [evF, ho]; kernel_rfl
theorem J33_eq (call : CallA) (n : Nat) (x0a : Option Pos) (x0l : Nat) (x0c : Cap) (S : AS) : evC E call n 33 (E.at 33 []) 0 (enumT 0 [(.sl x0a x0l x0c)]) S (retK E (E.fn 33)) = J33 call n x0a x0l x0c S := by
  rw [J33, a33_entry, h33_l1_1_1_0_1_0 call n  n]
theorem F33 {o : Orc} (n : Nat) (x0a : Option Pos) (x0l : Nat) (x0c : Cap) (S : AS) (ho : ∀ args, o 33 args = none) : evF E o (n + 1) (.fn 33) [(.sl x0a x0l x0c)] S = J33 (evF E o n) n x0a x0l x0c S := (run33 o n [(.sl x0a x0l x0c)] S (ho _)).trans (J33_eq _ _ x0a x0l x0c S)
def b34_l1_1_0_1_0 (call : CallA) (n : Nat)  (l1_1_0_1_0 : Int → Option Pos → Nat → Cap → Int → Int → AS → Option (AV × AS)) (w3 : Int) (w14a : Option Pos) (w14l : Nat) (w14c : Cap) (w15 : Int) (w16 : Int) (S : AS) : Option (AV × AS) :=
 cond (decide (w16 < w15)) (
 ixSl 3 w14a w14l w16 fun p5 =>
 S.ldn p5.1 p5.2 3 fun g6 =>
 newA S (.cells [(.int .i64 0), (.int .u64 0), (.int .u64 0)]) fun b7 S8 =>
 ifO (g6.length = 3) <|
 S8.stn (.rw b7) 0 g6 fun S9 =>
 ldI .i64 S9 (.rw b7) 0 fun v10 =>
 l1_1_0_1_0 (IntKind.wrap .u64 (w3 + (IntKind.wrap .u64 v10))) w14a w14l w14c w15 (IntKind.wrap .i64 (w16 + 1)) S9) (
 some ((.int .u64 w3), S))

def b34_entry (call : CallA) (n : Nat)  (l1_1_0_1_0 : Int → Option Pos → Nat → Cap → Int → Int → AS → Option (AV × AS)) (x0 : Option Pos) (S : AS) : Option (AV × AS) :=
 gO x0 fun p1 =>
 ldI .u64 S p1.1 (p1.2 + 3 + 2) fun v2 =>
 gO x0 fun p3 =>
 ldL S p3.1 (p3.2 + 9) fun v4a v4l v4c =>
 l1_1_0_1_0 v2 v4a v4l v4c ((v4l : Nat) : Int) 0 S

def r34_l1_1_0_1_0 (call : CallA) (n : Nat)  (m : Nat) (w3 : Int) (w14a : Option Pos) (w14l : Nat) (w14c : Cap) (w15 : Int) (w16 : Int) (S : AS) : Option (AV × AS) := loopN (evC E call n 34 (E.at 34 [1, 1, 0, 1, 0, 0]) 0) [3, 14, 15, 16] m [(3, (.int .u64 w3)), (14, (.sl w14a w14l w14c)), (15, (.int .i64 w15)), (16, (.int .i64 w16))] S (kBlk 0 (kSeq E call n 34 (E.at 34 [1, 1, 1]) 0 (retK E (E.fn 34))))
theorem a34_l1_1_0_1_0 (call : CallA) (n : Nat)  (m : Nat) (w3 : Int) (w14a : Option Pos) (w14l : Nat) (w14c : Cap) (w15 : Int) (w16 : Int) (S : AS) : r34_l1_1_0_1_0 call n  (m + 1) w3 w14a w14l w14c w15 w16 S = b34_l1_1_0_1_0 call n (r34_l1_1_0_1_0 call n  m) w3 w14a w14l w14c w15 w16 S := by kernel_rfl
theorem a34_entry (call : CallA) (n : Nat) (x0 : Option Pos) (S : AS) : evC E call n 34 (E.at 34 []) 0 (enumT 0 [(.ptr x0)]) S (retK E (E.fn 34)) = b34_entry call n (r34_l1_1_0_1_0 call n  n) x0 S := by kernel_rfl
def J34_l1_1_0_1_0 (call : CallA) (n : Nat)  (m : Nat) : Int → Option Pos → Nat → Cap → Int → Int → AS → Option (AV × AS) := Nat.rec (motive := fun _ => Int → Option Pos → Nat → Cap → Int → Int → AS → Option (AV × AS)) (fun _ _ _ _ _ _ _ => none) (fun mK ih w3 w14a w14l w14c w15 w16 S => b34_l1_1_0_1_0 call n ih w3 w14a w14l w14c w15 w16 S) m
theorem J34_l1_1_0_1_0_succ (call : CallA) (n : Nat)  (m : Nat) (w3 : Int) (w14a : Option Pos) (w14l : Nat) (w14c : Cap) (w15 : Int) (w16 : Int) (S : AS) : J34_l1_1_0_1_0 call n  (m + 1) w3 w14a w14l w14c w15 w16 S = b34_l1_1_0_1_0 call n (J34_l1_1_0_1_0 call n  m) w3 w14a w14l w14c w15 w16 S := rfl
theorem h34_l1_1_0_1_0 (call : CallA) (n : Nat)  (m : Nat) : r34_l1_1_0_1_0 call n  m = J34_l1_1_0_1_0 call n  m := by
  induction m with
  | zero => rfl
  | succ m ih =>
    funext w3 w14a w14l w14c w15 w16 S
    rw [J34_l1_1_0_1_0_succ, a34_l1_1_0_1_0, ih]
def J34 (call : CallA) (n : Nat) (x0 : Option Pos) (S : AS) : Option (AV × AS) := b34_entry call n (J34_l1_1_0_1_0 call n  n) x0 S
theorem run34 (o : Orc) (n : Nat) (args : List AV) (S : AS) (ho : o 34 args = none) : evF E o (n + 1) (.fn 34) args S = evC E (evF E o n) n 34 (E.at 34 []) 0 (enumT 0 args) S (retK E (E.fn 34)) := by
  rw [evF, ho]; kernel_rfl
theorem J34_eq (call : CallA) (n : Nat) (x0 : Option Pos) (S : AS) : evC E call n 34 (E.at 34 []) 0 (enumT 0 [(.ptr x0)]) S (retK E (E.fn 34)) = J34 call n x0 S := by
  rw [J34, a34_entry, h34_l1_1_0_1_0 call n  n]
theorem F34 {o : Orc} (n : Nat) (x0 : Option Pos) (S : AS) (ho : ∀ args, o 34 args = none) : evF E o (n + 1) (.fn 34) [(.ptr x0)] S = J34 (evF E o n) n x0 S := (run34 o n [(.ptr x0)] S (ho _)).trans (J34_eq _ _ x0 S)
def b35_l1_0_1_0 (call : CallA) (n : Nat)  (l1_0_1_0 : Bool → Option Pos → Nat → Cap → Int → Int → AS → Option (AV × AS)) (w2 : Bool) (w5a : Option Pos) (w5l : Nat) (w5c : Cap) (w6 : Int) (w7 : Int) (S : AS) : Option (AV × AS) :=
 cond (decide (w7 < w6)) (
 ixSl 1 w5a w5l w7 fun p1 =>
 ldI .u64 S p1.1 p1.2 fun v2 =>
 cond (decide (v2 > 4611686018427387904)) (
 some ((.bool false), S)) (
 l1_0_1_0 w2 w5a w5l w5c w6 (IntKind.wrap .i64 (w7 + 1)) S)) (
 some ((.bool true), S))

def b35_entry (call : CallA) (n : Nat)  (l1_0_1_0 : Bool → Option Pos → Nat → Cap → Int → Int → AS → Option (AV × AS)) (x0a : Option Pos) (x0l : Nat) (x0c : Cap) (S : AS) : Option (AV × AS) :=
 l1_0_1_0 false x0a x0l x0c ((x0l : Nat) : Int) 0 S

def r35_l1_0_1_0 (call : CallA) (n : Nat)  (m : Nat) (w2 : Bool) (w5a : Option Pos) (w5l : Nat) (w5c : Cap) (w6 : Int) (w7 : Int) (S : AS) : Option (AV × AS) := loopN (evC E call n 35 (E.at 35 [1, 0, 1, 0, 0]) 0) [2, 5, 6, 7] m [(2, (.bool w2)), (5, (.sl w5a w5l w5c)), (6, (.int .i64 w6)), (7, (.int .i64 w7))] S (kBlk 0 (kSeq E call n 35 (E.at 35 [1, 1]) 0 (retK E (E.fn 35))))
theorem a35_l1_0_1_0 (call : CallA) (n : Nat)  (m : Nat) (w2 : Bool) (w5a : Option Pos) (w5l : Nat) (w5c : Cap) (w6 : Int) (w7 : Int) (S : AS) : r35_l1_0_1_0 call n  (m + 1) w2 w5a w5l w5c w6 w7 S = b35_l1_0_1_0 call n (r35_l1_0_1_0 call n  m) w2 w5a w5l w5c w6 w7 S := by kernel_rfl
theorem a35_entry (call : CallA) (n : Nat) (x0a : Option Pos) (x0l : Nat) (x0c : Cap) (S : AS) : evC E call n 35 (E.at 35 []) 0 (enumT 0 [(.sl x0a x0l x0c)]) S (retK E (E.fn 35)) = b35_entry call n (r35_l1_0_1_0 call n  n) x0a x0l x0c S := by kernel_rfl
def J35_l1_0_1_0 (call : CallA) (n : Nat)  (m : Nat) : Bool → Option Pos → Nat → Cap → Int → Int → AS → Option (AV × AS) := Nat.rec (motive := fun _ => Bool → Option Pos → Nat → Cap → Int → Int → AS → Option (AV × AS)) (fun _ _ _ _ _ _ _ => none) (fun mK ih w2 w5a w5l w5c w6 w7 S => b35_l1_0_1_0 call n ih w2 w5a w5l w5c w6 w7 S) m
theorem J35_l1_0_1_0_succ (call : CallA) (n : Nat)  (m : Nat) (w2 : Bool) (w5a : Option Pos) (w5l : Nat) (w5c : Cap) (w6 : Int) (w7 : Int) (S : AS) : J35_l1_0_1_0 call n  (m + 1) w2 w5a w5l w5c w6 w7 S = b35_l1_0_1_0 call n (J35_l1_0_1_0 call n  m) w2 w5a w5l w5c w6 w7 S := rfl
theorem h35_l1_0_1_0 (call : CallA) (n : Nat)  (m : Nat) : r35_l1_0_1_0 call n  m = J35_l1_0_1_0 call n  m := by
  induction m with
  | zero => rfl
  | succ m ih =>
    funext w2 w5a w5l w5c w6 w7 S
    rw [J35_l1_0_1_0_succ, a35_l1_0_1_0, ih]
def J35 (call : CallA) (n : Nat) (x0a : Option Pos) (x0l : Nat) (x0c : Cap) (S : AS) : Option (AV × AS) := b35_entry call n (J35_l1_0_1_0 call n  n) x0a x0l x0c S
theorem run35 (o : Orc) (n : Nat) (args : List AV) (S : AS) (ho : o 35 args = none) : evF E o (n + 1) (.fn 35) args S = evC E (evF E o n) n 35 (E.at 35 []) 0 (enumT 0 args) S (retK E (E.fn 35)) := by
  rw [evF, ho]; kernel_rfl
theorem J35_eq (call : CallA) (n : Nat) (x0a : Option Pos) (x0l : Nat) (x0c : Cap) (S : AS) : evC E call n 35 (E.at 35 []) 0 (enumT 0 [(.sl x0a x0l x0c)]) S (retK E (E.fn 35)) = J35 call n x0a x0l x0c S := by
  rw [J35, a35_entry, h35_l1_0_1_0 call n  n]
theorem F35 {o : Orc} (n : Nat) (x0a : Option Pos) (x0l : Nat) (x0c : Cap) (S : AS) (ho : ∀ args, o 35 args = none) : evF E o (n + 1) (.fn 35) [(.sl x0a x0l x0c)] S = J35 (evF E o n) n x0a x0l x0c S := (run35 o n [(.sl x0a x0l x0c)] S (ho _)).trans (J35_eq _ _ x0a x0l x0c S)
def b36_l1_1_1_0_1_0 (call : CallA) (n : Nat)  (l1_1_1_0_1_0 : Option Pos → Option Pos → Nat → Cap → Option Pos → Nat → Cap → Int → Int → AS → Option (AV × AS)) (j1_1_1_1 : Option Pos → Option Pos → Nat → Cap → AS → Option (AV × AS)) (w1 : Option Pos) (w4a : Option Pos) (w4l : Nat) (w4c : Cap) (w79a : Option Pos) (w79l : Nat) (w79c : Cap) (w80 : Int) (w81 : Int) (S : AS) : Option (AV × AS) :=
 cond (decide (w81 < w80)) (
 ixSl 1 w79a w79l w81 fun p31 =>
 ldI .u64 S p31.1 p31.2 fun v32 =>
 callL call 56 [(.sl w4a w4l w4c), (.int .u64 v32), (.int .i64 8)] S fun v34a v34l v34c S33 =>
 l1_1_1_0_1_0 w1 v34a v34l v34c w79a w79l w79c w80 (IntKind.wrap .i64 (w81 + 1)) S33) (
 j1_1_1_1 w1 w4a w4l w4c S)

def b36_j1_1_1_1 (call : CallA) (n : Nat)  (l1_1_1_1_0_1_0 : Option Pos → Option Pos → Nat → Cap → Option Pos → Nat → Cap → Int → Int → AS → Option (AV × AS)) (w1 : Option Pos) (w4a : Option Pos) (w4l : Nat) (w4c : Cap) (S : AS) : Option (AV × AS) :=
 gO w1 fun p35 =>
 ldI .i64 S p35.1 (p35.2 + 4) fun v36 =>
 gO w1 fun p37 =>
 ldI .i64 S p37.1 (p37.2 + 5) fun v38 =>
 gO w1 fun p39 =>
 ldL S p39.1 (p39.2 + 6) fun v40a v40l v40c =>
 newA S (.cells [(.int .i64 v36), (.int .i64 v38), (.int .i64 ((v40l : Nat) : Int))]) fun b41 S42 =>
 l1_1_1_1_0_1_0 w1 w4a w4l w4c (some (.rw b41, 0)) 3 (.ex 3) ((3 : Nat) : Int) 0 S42

def b36_l1_1_1_1_0_1_0 (call : CallA) (n : Nat)  (l1_1_1_1_0_1_0 : Option Pos → Option Pos → Nat → Cap → Option Pos → Nat → Cap → Int → Int → AS → Option (AV × AS)) (j1_1_1_1_1 : Option Pos → Option Pos → Nat → Cap → AS → Option (AV × AS)) (w1 : Option Pos) (w4a : Option Pos) (w4l : Nat) (w4c : Cap) (w96a : Option Pos) (w96l : Nat) (w96c : Cap) (w97 : Int) (w98 : Int) (S : AS) : Option (AV × AS) :=
 cond (decide (w98 < w97)) (
 ixSl 1 w96a w96l w98 fun p43 =>
 ldI .i64 S p43.1 p43.2 fun v44 =>
 callL call 56 [(.sl w4a w4l w4c), (.int .u64 (IntKind.wrap .u64 v44)), (.int .i64 2)] S fun v46a v46l v46c S45 =>
 l1_1_1_1_0_1_0 w1 v46a v46l v46c w96a w96l w96c w97 (IntKind.wrap .i64 (w98 + 1)) S45) (
 j1_1_1_1_1 w1 w4a w4l w4c S)

def b36_j1_1_1_1_1 (call : CallA) (n : Nat)   (w1 : Option Pos) (w4a : Option Pos) (w4l : Nat) (w4c : Cap) (S : AS) : Option (AV × AS) :=
 appendZA 1 1 [(.int .u8 0)] S w4a w4l w4c (IntKind.wrap .i64 (48 - ((w4l : Nat) : Int))) fun v47a v47l v47c S48 =>
 gO w1 fun p49 =>
 ldL S48 p49.1 (p49.2 + 6) fun v50a v50l v50c =>
 appendA 1 1 S48 v47a v47l v47c v50l (firstA S48 1 v50l (.sl v50a v50l v50c)) fun v51a v51l v51c S52 =>
 callL call 57 [(.sl v51a v51l v51c)] S52 fun v54a v54l v54c S53 =>
 some (.tup [(.sl v54a v54l v54c), (.int .i64 0)], S53)

def b36_entry (call : CallA) (n : Nat)  (l1_1_1_0_1_0 : Option Pos → Option Pos → Nat → Cap → Option Pos → Nat → Cap → Int → Int → AS → Option (AV × AS)) (x0 : List AV) (S : AS) : Option (AV × AS) :=
 ifO (x0.length = 7) <|
 newA S (.cells x0) fun b1 S2 =>
 ldI .u64 S2 (.rw b1) 0 fun v3 =>
 cond (v3 == 0) (
 some (.tup [(.sl none 0 (.ex 0)), (.int .i64 81)], S2)) (
 ldI .u64 S2 (.rw b1) 1 fun v4 =>
 cond (v4 == 0) (
 some (.tup [(.sl none 0 (.ex 0)), (.int .i64 81)], S2)) (
 ldI .u64 S2 (.rw b1) 3 fun v5 =>
 cond (v5 == 0) (
 some (.tup [(.sl none 0 (.ex 0)), (.int .i64 81)], S2)) (
 ldI .u64 S2 (.rw b1) 0 fun v6 =>
 ldI .u64 S2 (.rw b1) 1 fun v7 =>
 ldI .u64 S2 (.rw b1) 3 fun v8 =>
 ldI .u64 S2 (.rw b1) 2 fun v9 =>
 newA S2 (.cells [(.int .u64 v6), (.int .u64 v7), (.int .u64 v8), (.int .u64 v9)]) fun b10 S11 =>
 callB call 35 [(.sl (some (.rw b10, 0)) 4 (.ex 4))] S11 fun v13 S12 =>
 cond (!v13) (
 some (.tup [(.sl none 0 (.ex 0)), (.int .i64 81)], S12)) (
 ldI .i64 S12 (.rw b1) 5 fun v14 =>
 cond (decide (v14 < 1)) (
 some (.tup [(.sl none 0 (.ex 0)), (.int .i64 81)], S12)) (
 ldI .i64 S12 (.rw b1) 5 fun v15 =>
 cond (decide (v15 > 100)) (
 some (.tup [(.sl none 0 (.ex 0)), (.int .i64 81)], S12)) (
 ldI .i64 S12 (.rw b1) 4 fun v16 =>
 cond (decide (v16 < 0)) (
 some (.tup [(.sl none 0 (.ex 0)), (.int .i64 81)], S12)) (
 ldI .i64 S12 (.rw b1) 4 fun v17 =>
 ldI .i64 S12 (.rw b1) 5 fun v18 =>
 cond (decide (v17 ≥ v18)) (
 some (.tup [(.sl none 0 (.ex 0)), (.int .i64 81)], S12)) (
 ldL S12 (.rw b1) 6 fun v19a v19l v19c =>
 cond (((v19l : Nat) : Int) == 0) (
 some (.tup [(.sl none 0 (.ex 0)), (.int .i64 81)], S12)) (
 ldL S12 (.rw b1) 6 fun v20a v20l v20c =>
 cond (decide (((v20l : Nat) : Int) > 336)) (
 some (.tup [(.sl none 0 (.ex 0)), (.int .i64 81)], S12)) (
 newA S12 (.cells [(.int .u8 74), (.int .u8 76), (.int .u8 79), (.int .u8 71)]) fun b21 S22 =>
 convLL S22 (some (.rw b21, 0)) 4 (.ex 4) fun v24a v24l v24c S23 =>
 ldI .u64 S23 (.rw b1) 0 fun v25 =>
 ldI .u64 S23 (.rw b1) 1 fun v26 =>
 ldI .u64 S23 (.rw b1) 2 fun v27 =>
 ldI .u64 S23 (.rw b1) 3 fun v28 =>
 newA S23 (.cells [(.int .u64 v25), (.int .u64 v26), (.int .u64 v27), (.int .u64 v28)]) fun b29 S30 =>
 l1_1_1_0_1_0 (some ((.rw b1), 0)) v24a v24l v24c (some (.rw b29, 0)) 4 (.ex 4) ((4 : Nat) : Int) 0 S30))))))))))

def r36_l1_1_1_0_1_0 (call : CallA) (n : Nat)  (m : Nat) (w1 : Option Pos) (w4a : Option Pos) (w4l : Nat) (w4c : Cap) (w79a : Option Pos) (w79l : Nat) (w79c : Cap) (w80 : Int) (w81 : Int) (S : AS) : Option (AV × AS) := loopN (evC E call n 36 (E.at 36 [1, 1, 1, 0, 1, 0, 0]) 0) [1, 4, 79, 80, 81] m [(1, (.ptr w1)), (4, (.sl w4a w4l w4c)), (79, (.sl w79a w79l w79c)), (80, (.int .i64 w80)), (81, (.int .i64 w81))] S (kBlk 0 (kSeq E call n 36 (E.at 36 [1, 1, 1, 1]) 0 (retK E (E.fn 36))))
def r36_j1_1_1_1 (call : CallA) (n : Nat)  (w1 : Option Pos) (w4a : Option Pos) (w4l : Nat) (w4c : Cap) (S : AS) : Option (AV × AS) := evC E call n 36 (E.at 36 [1, 1, 1, 1]) 0 [(1, (.ptr w1)), (4, (.sl w4a w4l w4c))] S (retK E (E.fn 36))
def r36_l1_1_1_1_0_1_0 (call : CallA) (n : Nat)  (m : Nat) (w1 : Option Pos) (w4a : Option Pos) (w4l : Nat) (w4c : Cap) (w96a : Option Pos) (w96l : Nat) (w96c : Cap) (w97 : Int) (w98 : Int) (S : AS) : Option (AV × AS) := loopN (evC E call n 36 (E.at 36 [1, 1, 1, 1, 0, 1, 0, 0]) 2) [1, 4, 96, 97, 98] m [(1, (.ptr w1)), (4, (.sl w4a w4l w4c)), (96, (.sl w96a w96l w96c)), (97, (.int .i64 w97)), (98, (.int .i64 w98))] S (kBlk 2 (kSeq E call n 36 (E.at 36 [1, 1, 1, 1, 1]) 0 (retK E (E.fn 36))))
def r36_j1_1_1_1_1 (call : CallA) (n : Nat)  (w1 : Option Pos) (w4a : Option Pos) (w4l : Nat) (w4c : Cap) (S : AS) : Option (AV × AS) := evC E call n 36 (E.at 36 [1, 1, 1, 1, 1]) 0 [(1, (.ptr w1)), (4, (.sl w4a w4l w4c))] S (retK E (E.fn 36))
theorem a36_l1_1_1_0_1_0 (call : CallA) (n : Nat)  (m : Nat) (w1 : Option Pos) (w4a : Option Pos) (w4l : Nat) (w4c : Cap) (w79a : Option Pos) (w79l : Nat) (w79c : Cap) (w80 : Int) (w81 : Int) (S : AS) : r36_l1_1_1_0_1_0 call n  (m + 1) w1 w4a w4l w4c w79a w79l w79c w80 w81 S = b36_l1_1_1_0_1_0 call n (r36_l1_1_1_0_1_0 call n  m) (r36_j1_1_1_1 call n ) w1 w4a w4l w4c w79a w79l w79c w80 w81 S := by kernel_rfl
theorem a36_j1_1_1_1 (call : CallA) (n : Nat)  (w1 : Option Pos) (w4a : Option Pos) (w4l : Nat) (w4c : Cap) (S : AS) : r36_j1_1_1_1 call n  w1 w4a w4l w4c S = b36_j1_1_1_1 call n (r36_l1_1_1_1_0_1_0 call n  n) w1 w4a w4l w4c S := by kernel_rfl
theorem a36_l1_1_1_1_0_1_0 (call : CallA) (n : Nat)  (m : Nat) (w1 : Option Pos) (w4a : Option Pos) (w4l : Nat) (w4c : Cap) (w96a : Option Pos) (w96l : Nat) (w96c : Cap) (w97 : Int) (w98 : Int) (S : AS) : r36_l1_1_1_1_0_1_0 call n  (m + 1) w1 w4a w4l w4c w96a w96l w96c w97 w98 S = b36_l1_1_1_1_0_1_0 call n (r36_l1_1_1_1_0_1_0 call n  m) (r36_j1_1_1_1_1 call n ) w1 w4a w4l w4c w96a w96l w96c w97 w98 S := by kernel_rfl
theorem a36_j1_1_1_1_1 (call : CallA) (n : Nat)  (w1 : Option Pos) (w4a : Option Pos) (w4l : Nat) (w4c : Cap) (S : AS) : r36_j1_1_1_1_1 call n  w1 w4a w4l w4c S = b36_j1_1_1_1_1 call n  w1 w4a w4l w4c S := by kernel_rfl
theorem a36_entry (call : CallA) (n : Nat) (x0 : List AV) (S : AS) : evC E call n 36 (E.at 36 []) 0 (enumT 0 [(.agg x0)]) S (retK E (E.fn 36)) = b36_entry call n (r36_l1_1_1_0_1_0 call n  n) x0 S := by kernel_rfl
def J36_j1_1_1_1_1 (call : CallA) (n : Nat)  (w1 : Option Pos) (w4a : Option Pos) (w4l : Nat) (w4c : Cap) (S : AS) : Option (AV × AS) := b36_j1_1_1_1_1 call n  w1 w4a w4l w4c S
theorem h36_j1_1_1_1_1 (call : CallA) (n : Nat)  : r36_j1_1_1_1_1 call n  = J36_j1_1_1_1_1 call n  := by
  funext w1 w4a w4l w4c S
  rw [J36_j1_1_1_1_1, a36_j1_1_1_1_1]
def J36_l1_1_1_1_0_1_0 (call : CallA) (n : Nat)  (m : Nat) : Option Pos → Option Pos → Nat → Cap → Option Pos → Nat → Cap → Int → Int → AS → Option (AV × AS) := Nat.rec (motive := fun _ => Option Pos → Option Pos → Nat → Cap → Option Pos → Nat → Cap → Int → Int → AS → Option (AV × AS)) (fun _ _ _ _ _ _ _ _ _ _ => none) (fun mK ih w1 w4a w4l w4c w96a w96l w96c w97 w98 S => b36_l1_1_1_1_0_1_0 call n ih (J36_j1_1_1_1_1 call n ) w1 w4a w4l w4c w96a w96l w96c w97 w98 S) m
theorem J36_l1_1_1_1_0_1_0_succ (call : CallA) (n : Nat)  (m : Nat) (w1 : Option Pos) (w4a : Option Pos) (w4l : Nat) (w4c : Cap) (w96a : Option Pos) (w96l : Nat) (w96c : Cap) (w97 : Int) (w98 : Int) (S : AS) : J36_l1_1_1_1_0_1_0 call n  (m + 1) w1 w4a w4l w4c w96a w96l w96c w97 w98 S = b36_l1_1_1_1_0_1_0 call n (J36_l1_1_1_1_0_1_0 call n  m) (J36_j1_1_1_1_1 call n ) w1 w4a w4l w4c w96a w96l w96c w97 w98 S := rfl
theorem h36_l1_1_1_1_0_1_0 (call : CallA) (n : Nat)  (m : Nat) : r36_l1_1_1_1_0_1_0 call n  m = J36_l1_1_1_1_0_1_0 call n  m := by
  induction m with
  | zero => rfl
  | succ m ih =>
    funext w1 w4a w4l w4c w96a w96l w96c w97 w98 S
    rw [J36_l1_1_1_1_0_1_0_succ, a36_l1_1_1_1_0_1_0, h36_j1_1_1_1_1 call n , ih]
def J36_j1_1_1_1 (call : CallA) (n : Nat)  (w1 : Option Pos) (w4a : Option Pos) (w4l : Nat) (w4c : Cap) (S : AS) : Option (AV × AS) := b36_j1_1_1_1 call n (J36_l1_1_1_1_0_1_0 call n  n) w1 w4a w4l w4c S
theorem h36_j1_1_1_1 (call : CallA) (n : Nat)  : r36_j1_1_1_1 call n  = J36_j1_1_1_1 call n  := by
  funext w1 w4a w4l w4c S
  rw [J36_j1_1_1_1, a36_j1_1_1_1, h36_l1_1_1_1_0_1_0 call n  n]
def J36_l1_1_1_0_1_0 (call : CallA) (n : Nat)  (m : Nat) : Option Pos → Option Pos → Nat → Cap → Option Pos → Nat → Cap → Int → Int → AS → Option (AV × AS) := Nat.rec (motive := fun _ => Option Pos → Option Pos → Nat → Cap → Option Pos → Nat → Cap → Int → Int → AS → Option (AV × AS)) (fun _ _ _ _ _ _ _ _ _ _ => none) (fun mK ih w1 w4a w4l w4c w79a w79l w79c w80 w81 S => b36_l1_1_1_0_1_0 call n ih (J36_j1_1_1_1 call n ) w1 w4a w4l w4c w79a w79l w79c w80 w81 S) m
theorem J36_l1_1_1_0_1_0_succ (call : CallA) (n : Nat)  (m : Nat) (w1 : Option Pos) (w4a : Option Pos) (w4l : Nat) (w4c : Cap) (w79a : Option Pos) (w79l : Nat) (w79c : Cap) (w80 : Int) (w81 : Int) (S : AS) : J36_l1_1_1_0_1_0 call n  (m + 1) w1 w4a w4l w4c w79a w79l w79c w80 w81 S = b36_l1_1_1_0_1_0 call n (J36_l1_1_1_0_1_0 call n  m) (J36_j1_1_1_1 call n ) w1 w4a w4l w4c w79a w79l w79c w80 w81 S := rfl
theorem h36_l1_1_1_0_1_0 (call : CallA) (n : Nat)  (m : Nat) : r36_l1_1_1_0_1_0 call n  m = J36_l1_1_1_0_1_0 call n  m := by
  induction m with
  | zero => rfl
  | succ m ih =>
    funext w1 w4a w4l w4c w79a w79l w79c w80 w81 S
    rw [J36_l1_1_1_0_1_0_succ, a36_l1_1_1_0_1_0, h36_j1_1_1_1 call n , ih]
def J36 (call : CallA) (n : Nat) (x0 : List AV) (S : AS) : Option (AV × AS) := b36_entry call n (J36_l1_1_1_0_1_0 call n  n) x0 S
theorem run36 (o : Orc) (n : Nat) (args : List AV) (S : AS) (ho : o 36 args = none) : evF E o (n + 1) (.fn 36) args S = evC E (evF E o n) n 36 (E.at 36 []) 0 (enumT 0 args) S (retK E (E.fn 36)) := by
  rw [evF, ho]; kernel_rfl
theorem J36_eq (call : CallA) (n : Nat) (x0 : List AV) (S : AS) : evC E call n 36 (E.at 36 []) 0 (enumT 0 [(.agg x0)]) S (retK E (E.fn 36)) = J36 call n x0 S := by
  rw [J36, a36_entry, h36_l1_1_1_0_1_0 call n  n]
theorem F36 {o : Orc} (n : Nat) (x0 : List AV) (S : AS) (ho : ∀ args, o 36 args = none) : evF E o (n + 1) (.fn 36) [(.agg x0)] S = J36 (evF E o n) n x0 S := (run36 o n [(.agg x0)] S (ho _)).trans (J36_eq _ _ x0 S)
def b37_entry (call : CallA) (n : Nat)   (x0 : Option Pos) (x1 : Int) (S : AS) : Option (AV × AS) :=
 gO x0 fun p1 =>
 ldI .i64 S p1.1 (p1.2 + 1) fun v2 =>
 gO x0 fun p3 =>
 ldI .i64 S p3.1 (p3.2 + 2) fun v4 =>
 nz (IntKind.wrap .u64 (IntKind.wrap .i64 (v4 - 2))) <|
 some ((.int .i64 (IntKind.wrap .i64 ((IntKind.wrap .i64 (v2 + 2)) + (IntKind.wrap .i64 (Int.tmod x1 (IntKind.wrap .u64 (IntKind.wrap .i64 (v4 - 2)))))))), S)

theorem a37_entry (call : CallA) (n : Nat) (x0 : Option Pos) (x1 : Int) (S : AS) : evC E call n 37 (E.at 37 []) 0 (enumT 0 [(.ptr x0), (.int .u64 x1)]) S (retK E (E.fn 37)) = b37_entry call n  x0 x1 S := by kernel_rfl
def J37 (call : CallA) (n : Nat) (x0 : Option Pos) (x1 : Int) (S : AS) : Option (AV × AS) := b37_entry call n  x0 x1 S
theorem run37 (o : Orc) (n : Nat) (args : List AV) (S : AS) (ho : o 37 args = none) : evF E o (n + 1) (.fn 37) args S = evC E (evF E o n) n 37 (E.at 37 []) 0 (enumT 0 args) S (retK E (E.fn 37)) := by
  rw [evF, ho]; kernel_rfl
theorem J37_eq (call : CallA) (n : Nat) (x0 : Option Pos) (x1 : Int) (S : AS) : evC E call n 37 (E.at 37 []) 0 (enumT 0 [(.ptr x0), (.int .u64 x1)]) S (retK E (E.fn 37)) = J37 call n x0 x1 S := by
  rw [J37, a37_entry]
theorem F37 {o : Orc} (n : Nat) (x0 : Option Pos) (x1 : Int) (S : AS) (ho : ∀ args, o 37 args = none) : evF E o (n + 1) (.fn 37) [(.ptr x0), (.int .u64 x1)] S = J37 (evF E o n) n x0 x1 S := (run37 o n [(.ptr x0), (.int .u64 x1)] S (ho _)).trans (J37_eq _ _ x0 x1 S)
def b38_entry (call : CallA) (n : Nat)   (x0 : Option Pos) (x1 : List AV) (S : AS) : Option (AV × AS) :=
 ifO (x1.length = 6) <|
 newA S (.cells x1) fun b1 S2 =>
 gO x0 fun p3 =>
 ldI .u64 S2 p3.1 (p3.2 + 3) fun v4 =>
 S2.stn (.rw b1) 0 [(.int .u64 (IntKind.wrap .u64 (v4 + 1)))] fun S5 =>
 S5.ldn (.rw b1) 0 6 fun g6 =>
 callT call 41 [(.agg g6)] S5 fun v8 S7 =>
 atL v8 0 fun v9a v9l v9c =>
 atI .i64 v8 1 fun v10 =>
 cond (v10 != 0) (
 some ((.int .i64 5), S7)) (
 gO x0 fun p11 =>
 ldI .u64 S7 p11.1 (p11.2 + 3) fun v12 =>
 gO x0 fun p13 =>
 S7.stn p13.1 (p13.2 + 3) [(.int .u64 (IntKind.wrap .u64 (v12 + 1)))] fun S14 =>
 gO x0 fun p15 =>
 ldI .i64 S14 p15.1 (p15.2 + 1) fun v16 =>
 ldI .u64 S14 (.rw b1) 0 fun v17 =>
 cond ((Int.tmod v17 2) == 0) (
 gO x0 fun p18 =>
 ldV S14 p18.1 p18.2 fun v19 =>
 invV E call v19 "Write" [(.int .i64 (IntKind.wrap .i64 (v16 + 1))), (.sl v9a v9l v9c)] S14 fun v21 S20 =>
 gIk .i64 v21 fun v22 =>
 cond (v22 != 0) (
 some ((.int .i64 v22), S20)) (
 gO x0 fun p23 =>
 ldV S20 p23.1 p23.2 fun v24 =>
 invV E call v24 "Flush" [] S20 fun v26 S25 =>
 gIk .i64 v26 fun v27 =>
 cond (v27 != 0) (
 some ((.int .i64 v27), S25)) (
 S25.ldn (.rw b1) 0 6 fun g28 =>
 gO x0 fun p29 =>
 ifO (g28.length = 6) <|
 S25.stn p29.1 (p29.2 + 3) g28 fun S30 =>
 some ((.int .i64 0), S30)))) (
 gO x0 fun p31 =>
 ldV S14 p31.1 p31.2 fun v32 =>
 invV E call v32 "Write" [(.int .i64 v16), (.sl v9a v9l v9c)] S14 fun v34 S33 =>
 gIk .i64 v34 fun v35 =>
 cond (v35 != 0) (
 some ((.int .i64 v35), S33)) (
 gO x0 fun p36 =>
 ldV S33 p36.1 p36.2 fun v37 =>
 invV E call v37 "Flush" [] S33 fun v39 S38 =>
 gIk .i64 v39 fun v40 =>
 cond (v40 != 0) (
 some ((.int .i64 v40), S38)) (
 S38.ldn (.rw b1) 0 6 fun g41 =>
 gO x0 fun p42 =>
 ifO (g41.length = 6) <|
 S38.stn p42.1 (p42.2 + 3) g41 fun S43 =>
 some ((.int .i64 0), S43)))))

theorem a38_entry (call : CallA) (n : Nat) (x0 : Option Pos) (x1 : List AV) (S : AS) : evC E call n 38 (E.at 38 []) 0 (enumT 0 [(.ptr x0), (.agg x1)]) S (retK E (E.fn 38)) = b38_entry call n  x0 x1 S := by kernel_rfl
def J38 (call : CallA) (n : Nat) (x0 : Option Pos) (x1 : List AV) (S : AS) : Option (AV × AS) := b38_entry call n  x0 x1 S
theorem run38 (o : Orc) (n : Nat) (args : List AV) (S : AS) (ho : o 38 args = none) : evF E o (n + 1) (.fn 38) args S = evC E (evF E o n) n 38 (E.at 38 []) 0 (enumT 0 args) S (retK E (E.fn 38)) := by
  rw [evF, ho]; kernel_rfl
theorem J38_eq (call : CallA) (n : Nat) (x0 : Option Pos) (x1 : List AV) (S : AS) : evC E call n 38 (E.at 38 []) 0 (enumT 0 [(.ptr x0), (.agg x1)]) S (retK E (E.fn 38)) = J38 call n x0 x1 S := by
  rw [J38, a38_entry]
theorem F38 {o : Orc} (n : Nat) (x0 : Option Pos) (x1 : List AV) (S : AS) (ho : ∀ args, o 38 args = none) : evF E o (n + 1) (.fn 38) [(.ptr x0), (.agg x1)] S = J38 (evF E o n) n x0 x1 S := (run38 o n [(.ptr x0), (.agg x1)] S (ho _)).trans (J38_eq _ _ x0 x1 S)
def b39_entry (call : CallA) (n : Nat)   (x0a : Option Pos) (x0l : Nat) (x0c : Cap) (S : AS) : Option (AV × AS) :=
 cond x0a.isNone (
 some ((.sl none 0 (.ex 0)), S)) (
 newA S (.cells []) fun b1 S2 =>
 appendA 3 24 S2 (some (.rw b1, 0)) 0 (.ex 0) x0l (firstA S2 3 x0l (.sl x0a x0l x0c)) fun v3a v3l v3c S4 =>
 some ((.sl v3a v3l v3c), S4))

theorem a39_entry (call : CallA) (n : Nat) (x0a : Option Pos) (x0l : Nat) (x0c : Cap) (S : AS) : evC E call n 39 (E.at 39 []) 0 (enumT 0 [(.sl x0a x0l x0c)]) S (retK E (E.fn 39)) = b39_entry call n  x0a x0l x0c S := by kernel_rfl
def J39 (call : CallA) (n : Nat) (x0a : Option Pos) (x0l : Nat) (x0c : Cap) (S : AS) : Option (AV × AS) := b39_entry call n  x0a x0l x0c S
theorem run39 (o : Orc) (n : Nat) (args : List AV) (S : AS) (ho : o 39 args = none) : evF E o (n + 1) (.fn 39) args S = evC E (evF E o n) n 39 (E.at 39 []) 0 (enumT 0 args) S (retK E (E.fn 39)) := by
  rw [evF, ho]; kernel_rfl
theorem J39_eq (call : CallA) (n : Nat) (x0a : Option Pos) (x0l : Nat) (x0c : Cap) (S : AS) : evC E call n 39 (E.at 39 []) 0 (enumT 0 [(.sl x0a x0l x0c)]) S (retK E (E.fn 39)) = J39 call n x0a x0l x0c S := by
  rw [J39, a39_entry]
theorem F39 {o : Orc} (n : Nat) (x0a : Option Pos) (x0l : Nat) (x0c : Cap) (S : AS) (ho : ∀ args, o 39 args = none) : evF E o (n + 1) (.fn 39) [(.sl x0a x0l x0c)] S = J39 (evF E o n) n x0a x0l x0c S := (run39 o n [(.sl x0a x0l x0c)] S (ho _)).trans (J39_eq _ _ x0a x0l x0c S)
def b40_entry (call : CallA) (n : Nat)   (x0 : AV) (x1 : Int) (x2 : Int) (S : AS) : Option (AV × AS) :=
 ifNil E .eql ty73 x0 fun b1 =>
 cond b1 (
 some ((.int .i64 7), S)) (
 cond (decide (x2 < 6)) (
 some ((.int .i64 2), S)) (
 cond (decide (x1 < 0)) (
 some ((.int .i64 2), S)) (
 invV E call x0 "Len" [] S fun v3 S2 =>
 gIk .i64 v3 fun v4 =>
 cond (decide (x1 > v4)) (
 some ((.int .i64 2), S2)) (
 invV E call x0 "Len" [] S2 fun v6 S5 =>
 gIk .i64 v6 fun v7 =>
 cond (decide (x2 > (IntKind.wrap .i64 (v7 - x1)))) (
 some ((.int .i64 2), S5)) (
 some ((.int .i64 0), S5))))))

theorem a40_entry (call : CallA) (n : Nat) (x0 : AV) (x1 : Int) (x2 : Int) (S : AS) : evC E call n 40 (E.at 40 []) 0 (enumT 0 [x0, (.int .i64 x1), (.int .i64 x2)]) S (retK E (E.fn 40)) = b40_entry call n  x0 x1 x2 S := by kernel_rfl
def J40 (call : CallA) (n : Nat) (x0 : AV) (x1 : Int) (x2 : Int) (S : AS) : Option (AV × AS) := b40_entry call n  x0 x1 x2 S
theorem run40 (o : Orc) (n : Nat) (args : List AV) (S : AS) (ho : o 40 args = none) : evF E o (n + 1) (.fn 40) args S = evC E (evF E o n) n 40 (E.at 40 []) 0 (enumT 0 args) S (retK E (E.fn 40)) := by
  rw [evF, ho]; kernel_rfl
theorem J40_eq (call : CallA) (n : Nat) (x0 : AV) (x1 : Int) (x2 : Int) (S : AS) : evC E call n 40 (E.at 40 []) 0 (enumT 0 [x0, (.int .i64 x1), (.int .i64 x2)]) S (retK E (E.fn 40)) = J40 call n x0 x1 x2 S := by
  rw [J40, a40_entry]
theorem F40 {o : Orc} (n : Nat) (x0 : AV) (x1 : Int) (x2 : Int) (S : AS) (ho : ∀ args, o 40 args = none) : evF E o (n + 1) (.fn 40) [x0, (.int .i64 x1), (.int .i64 x2)] S = J40 (evF E o n) n x0 x1 x2 S := (run40 o n [x0, (.int .i64 x1), (.int .i64 x2)] S (ho _)).trans (J40_eq _ _ x0 x1 x2 S)
def b41_l1_1_1_1_0_1_0 (call : CallA) (n : Nat)  (l1_1_1_1_0_1_0 : Option Pos → Nat → Cap → Option Pos → Nat → Cap → Int → Int → AS → Option (AV × AS)) (j1_1_1_1_1 : Option Pos → Nat → Cap → AS → Option (AV × AS)) (w5a : Option Pos) (w5l : Nat) (w5c : Cap) (w36a : Option Pos) (w36l : Nat) (w36c : Cap) (w37 : Int) (w38 : Int) (S : AS) : Option (AV × AS) :=
 cond (decide (w38 < w37)) (
 ixSl 1 w36a w36l w38 fun p19 =>
 ldI .u64 S p19.1 p19.2 fun v20 =>
 callL call 56 [(.sl w5a w5l w5c), (.int .u64 v20), (.int .i64 8)] S fun v22a v22l v22c S21 =>
 l1_1_1_1_0_1_0 v22a v22l v22c w36a w36l w36c w37 (IntKind.wrap .i64 (w38 + 1)) S21) (
 j1_1_1_1_1 w5a w5l w5c S)

def b41_j1_1_1_1_1 (call : CallA) (n : Nat)   (w5a : Option Pos) (w5l : Nat) (w5c : Cap) (S : AS) : Option (AV × AS) :=
 callL call 57 [(.sl w5a w5l w5c)] S fun v24a v24l v24c S23 =>
 some (.tup [(.sl v24a v24l v24c), (.int .i64 0)], S23)

def b41_entry (call : CallA) (n : Nat)  (l1_1_1_1_0_1_0 : Option Pos → Nat → Cap → Option Pos → Nat → Cap → Int → Int → AS → Option (AV × AS)) (x0 : List AV) (S : AS) : Option (AV × AS) :=
 ifO (x0.length = 6) <|
 newA S (.cells x0) fun b1 S2 =>
 ldI .u64 S2 (.rw b1) 0 fun v3 =>
 ldI .u64 S2 (.rw b1) 1 fun v4 =>
 ldI .u64 S2 (.rw b1) 2 fun v5 =>
 ldI .u64 S2 (.rw b1) 3 fun v6 =>
 ldI .u64 S2 (.rw b1) 4 fun v7 =>
 ldI .u64 S2 (.rw b1) 5 fun v8 =>
 newA S2 (.cells [(.int .u64 v3), (.int .u64 v4), (.int .u64 v5), (.int .u64 v6), (.int .u64 v7), (.int .u64 v8)]) fun b9 S10 =>
 ldI .u64 S10 (.rw b1) 0 fun v11 =>
 cond (v11 == 0) (
 some (.tup [(.sl none 0 (.ex 0)), (.int .i64 81)], S10)) (
 ldI .u64 S10 (.rw b1) 1 fun v12 =>
 cond (v12 == 0) (
 some (.tup [(.sl none 0 (.ex 0)), (.int .i64 81)], S10)) (
 callB call 35 [(.sl (some (.rw b9, 0)) 6 (.ex 6))] S10 fun v14 S13 =>
 cond (!v14) (
 some (.tup [(.sl none 0 (.ex 0)), (.int .i64 81)], S13)) (
 newA S13 (.cells [(.int .u8 74), (.int .u8 83), (.int .u8 85), (.int .u8 80)]) fun b15 S16 =>
 convLL S16 (some (.rw b15, 0)) 4 (.ex 4) fun v18a v18l v18c S17 =>
 l1_1_1_1_0_1_0 v18a v18l v18c (some (.rw b9, 0)) 6 (.ex 6) ((6 : Nat) : Int) 0 S17)))

def r41_l1_1_1_1_0_1_0 (call : CallA) (n : Nat)  (m : Nat) (w5a : Option Pos) (w5l : Nat) (w5c : Cap) (w36a : Option Pos) (w36l : Nat) (w36c : Cap) (w37 : Int) (w38 : Int) (S : AS) : Option (AV × AS) := loopN (evC E call n 41 (E.at 41 [1, 1, 1, 1, 0, 1, 0, 0]) 0) [5, 36, 37, 38] m [(5, (.sl w5a w5l w5c)), (36, (.sl w36a w36l w36c)), (37, (.int .i64 w37)), (38, (.int .i64 w38))] S (kBlk 0 (kSeq E call n 41 (E.at 41 [1, 1, 1, 1, 1]) 0 (retK E (E.fn 41))))
def r41_j1_1_1_1_1 (call : CallA) (n : Nat)  (w5a : Option Pos) (w5l : Nat) (w5c : Cap) (S : AS) : Option (AV × AS) := evC E call n 41 (E.at 41 [1, 1, 1, 1, 1]) 0 [(5, (.sl w5a w5l w5c))] S (retK E (E.fn 41))
theorem a41_l1_1_1_1_0_1_0 (call : CallA) (n : Nat)  (m : Nat) (w5a : Option Pos) (w5l : Nat) (w5c : Cap) (w36a : Option Pos) (w36l : Nat) (w36c : Cap) (w37 : Int) (w38 : Int) (S : AS) : r41_l1_1_1_1_0_1_0 call n  (m + 1) w5a w5l w5c w36a w36l w36c w37 w38 S = b41_l1_1_1_1_0_1_0 call n (r41_l1_1_1_1_0_1_0 call n  m) (r41_j1_1_1_1_1 call n ) w5a w5l w5c w36a w36l w36c w37 w38 S := by kernel_rfl
theorem a41_j1_1_1_1_1 (call : CallA) (n : Nat)  (w5a : Option Pos) (w5l : Nat) (w5c : Cap) (S : AS) : r41_j1_1_1_1_1 call n  w5a w5l w5c S = b41_j1_1_1_1_1 call n  w5a w5l w5c S := by kernel_rfl
theorem a41_entry (call : CallA) (n : Nat) (x0 : List AV) (S : AS) : evC E call n 41 (E.at 41 []) 0 (enumT 0 [(.agg x0)]) S (retK E (E.fn 41)) = b41_entry call n (r41_l1_1_1_1_0_1_0 call n  n) x0 S := by kernel_rfl
def J41_j1_1_1_1_1 (call : CallA) (n : Nat)  (w5a : Option Pos) (w5l : Nat) (w5c : Cap) (S : AS) : Option (AV × AS) := b41_j1_1_1_1_1 call n  w5a w5l w5c S
theorem h41_j1_1_1_1_1 (call : CallA) (n : Nat)  : r41_j1_1_1_1_1 call n  = J41_j1_1_1_1_1 call n  := by
  funext w5a w5l w5c S
  rw [J41_j1_1_1_1_1, a41_j1_1_1_1_1]
def J41_l1_1_1_1_0_1_0 (call : CallA) (n : Nat)  (m : Nat) : Option Pos → Nat → Cap → Option Pos → Nat → Cap → Int → Int → AS → Option (AV × AS) := Nat.rec (motive := fun _ => Option Pos → Nat → Cap → Option Pos → Nat → Cap → Int → Int → AS → Option (AV × AS)) (fun _ _ _ _ _ _ _ _ _ => none) (fun mK ih w5a w5l w5c w36a w36l w36c w37 w38 S => b41_l1_1_1_1_0_1_0 call n ih (J41_j1_1_1_1_1 call n ) w5a w5l w5c w36a w36l w36c w37 w38 S) m
theorem J41_l1_1_1_1_0_1_0_succ (call : CallA) (n : Nat)  (m : Nat) (w5a : Option Pos) (w5l : Nat) (w5c : Cap) (w36a : Option Pos) (w36l : Nat) (w36c : Cap) (w37 : Int) (w38 : Int) (S : AS) : J41_l1_1_1_1_0_1_0 call n  (m + 1) w5a w5l w5c w36a w36l w36c w37 w38 S = b41_l1_1_1_1_0_1_0 call n (J41_l1_1_1_1_0_1_0 call n  m) (J41_j1_1_1_1_1 call n ) w5a w5l w5c w36a w36l w36c w37 w38 S := rfl
theorem h41_l1_1_1_1_0_1_0 (call : CallA) (n : Nat)  (m : Nat) : r41_l1_1_1_1_0_1_0 call n  m = J41_l1_1_1_1_0_1_0 call n  m := by
  induction m with
  | zero => rfl
  | succ m ih =>
    funext w5a w5l w5c w36a w36l w36c w37 w38 S
    rw [J41_l1_1_1_1_0_1_0_succ, a41_l1_1_1_1_0_1_0, h41_j1_1_1_1_1 call n , ih]
def J41 (call : CallA) (n : Nat) (x0 : List AV) (S : AS) : Option (AV × AS) := b41_entry call n (J41_l1_1_1_1_0_1_0 call n  n) x0 S
theorem run41 (o : Orc) (n : Nat) (args : List AV) (S : AS) (ho : o 41 args = none) : evF E o (n + 1) (.fn 41) args S = evC E (evF E o n) n 41 (E.at 41 []) 0 (enumT 0 args) S (retK E (E.fn 41)) := by
  rw [evF, ho]; kernel_rfl
theorem J41_eq (call : CallA) (n : Nat) (x0 : List AV) (S : AS) : evC E call n 41 (E.at 41 []) 0 (enumT 0 [(.agg x0)]) S (retK E (E.fn 41)) = J41 call n x0 S := by
  rw [J41, a41_entry, h41_l1_1_1_1_0_1_0 call n  n]
theorem F41 {o : Orc} (n : Nat) (x0 : List AV) (S : AS) (ho : ∀ args, o 41 args = none) : evF E o (n + 1) (.fn 41) [(.agg x0)] S = J41 (evF E o n) n x0 S := (run41 o n [(.agg x0)] S (ho _)).trans (J41_eq _ _ x0 S)
def b42_entry (call : CallA) (n : Nat)   (x0 : Option Pos) (x1 : Int) (x2 : Int) (S : AS) : Option (AV × AS) :=
 cond (decide (x2 < 6)) (
 some ((.int .i64 2), S)) (
 cond (decide (x1 < 0)) (
 some ((.int .i64 2), S)) (
 gO x0 fun p1 =>
 ldL S p1.1 p1.2 fun v2a v2l v2c =>
 cond (decide (x2 > ((v2l : Nat) : Int))) (
 some ((.int .i64 2), S)) (
 gO x0 fun p3 =>
 ldL S p3.1 p3.2 fun v4a v4l v4c =>
 cond (decide (x1 > (IntKind.wrap .i64 (((v4l : Nat) : Int) - x2)))) (
 some ((.int .i64 2), S)) (
 some ((.int .i64 0), S)))))

theorem a42_entry (call : CallA) (n : Nat) (x0 : Option Pos) (x1 : Int) (x2 : Int) (S : AS) : evC E call n 42 (E.at 42 []) 0 (enumT 0 [(.ptr x0), (.int .i64 x1), (.int .i64 x2)]) S (retK E (E.fn 42)) = b42_entry call n  x0 x1 x2 S := by kernel_rfl
def J42 (call : CallA) (n : Nat) (x0 : Option Pos) (x1 : Int) (x2 : Int) (S : AS) : Option (AV × AS) := b42_entry call n  x0 x1 x2 S
theorem run42 (o : Orc) (n : Nat) (args : List AV) (S : AS) (ho : o 42 args = none) : evF E o (n + 1) (.fn 42) args S = evC E (evF E o n) n 42 (E.at 42 []) 0 (enumT 0 args) S (retK E (E.fn 42)) := by
  rw [evF, ho]; kernel_rfl
theorem J42_eq (call : CallA) (n : Nat) (x0 : Option Pos) (x1 : Int) (x2 : Int) (S : AS) : evC E call n 42 (E.at 42 []) 0 (enumT 0 [(.ptr x0), (.int .i64 x1), (.int .i64 x2)]) S (retK E (E.fn 42)) = J42 call n x0 x1 x2 S := by
  rw [J42, a42_entry]
theorem F42 {o : Orc} (n : Nat) (x0 : Option Pos) (x1 : Int) (x2 : Int) (S : AS) (ho : ∀ args, o 42 args = none) : evF E o (n + 1) (.fn 42) [(.ptr x0), (.int .i64 x1), (.int .i64 x2)] S = J42 (evF E o n) n x0 x1 x2 S := (run42 o n [(.ptr x0), (.int .i64 x1), (.int .i64 x2)] S (ho _)).trans (J42_eq _ _ x0 x1 x2 S)
def b43_j1_1_1_1 (call : CallA) (n : Nat)   (w0 : Option Pos) (w1 : Int) (w2a : Option Pos) (w2l : Nat) (w2c : Cap) (S : AS) : Option (AV × AS) :=
 drawA S 14 fun b13 S14 =>
 gO w0 fun p15 =>
 ldL S14 p15.1 (p15.2 + 1) fun v16a v16l v16c =>
 bytesStr S14 w2a w2l fun s17 =>
 layA S14 (b13 + 9) (.cells [(.int .i64 w1), (.str s17)]) fun S18 =>
 appendA 2 24 S18 v16a v16l v16c 1 (firstA S18 2 1 (.sl (some (.rw (b13 + 9), 0)) 1 (.ex 1))) fun v19a v19l v19c S20 =>
 gO w0 fun p21 =>
 S20.stn p21.1 (p21.2 + 1) [(.sl v19a v19l v19c)] fun S22 =>
 some ((.int .i64 0), S22)

def b43_entry (call : CallA) (n : Nat)  (j1_1_1_1 : Option Pos → Int → Option Pos → Nat → Cap → AS → Option (AV × AS)) (x0 : Option Pos) (x1 : Int) (x2a : Option Pos) (x2l : Nat) (x2c : Cap) (S : AS) : Option (AV × AS) :=
 cond (decide (x1 < 0)) (
 some ((.int .i64 2), S)) (
 gO x0 fun p1 =>
 ldL S p1.1 p1.2 fun v2a v2l v2c =>
 cond (decide (x1 ≥ ((v2l : Nat) : Int))) (
 some ((.int .i64 2), S)) (
 cond (((x2l : Nat) : Int) != 384) (
 some ((.int .i64 2), S)) (
 gO x0 fun p3 =>
 ldI .i64 S p3.1 (p3.2 + 2) fun v4 =>
 cond (v4 == 0) (
 gO x0 fun p5 =>
 S.stn p5.1 (p5.2 + 2) [(.int .i64 (-1))] fun S6 =>
 some ((.int .i64 61), S6)) (
 gO x0 fun p7 =>
 ldI .i64 S p7.1 (p7.2 + 2) fun v8 =>
 cond (decide (v8 > 0)) (
 gO x0 fun p9 =>
 ldI .i64 S p9.1 (p9.2 + 2) fun v10 =>
 gO x0 fun p11 =>
 S.stn p11.1 (p11.2 + 2) [(.int .i64 (IntKind.wrap .i64 (v10 - 1)))] fun S12 =>
 j1_1_1_1 x0 x1 x2a x2l x2c S12) (
 j1_1_1_1 x0 x1 x2a x2l x2c S)))))

def r43_j1_1_1_1 (call : CallA) (n : Nat)  (w0 : Option Pos) (w1 : Int) (w2a : Option Pos) (w2l : Nat) (w2c : Cap) (S : AS) : Option (AV × AS) := evC E call n 43 (E.at 43 [1, 1, 1, 1]) 0 [(0, (.ptr w0)), (1, (.int .i64 w1)), (2, (.sl w2a w2l w2c))] S (retK E (E.fn 43))
theorem a43_j1_1_1_1 (call : CallA) (n : Nat)  (w0 : Option Pos) (w1 : Int) (w2a : Option Pos) (w2l : Nat) (w2c : Cap) (S : AS) : r43_j1_1_1_1 call n  w0 w1 w2a w2l w2c S = b43_j1_1_1_1 call n  w0 w1 w2a w2l w2c S := by kernel_rfl
theorem a43_entry (call : CallA) (n : Nat) (x0 : Option Pos) (x1 : Int) (x2a : Option Pos) (x2l : Nat) (x2c : Cap) (S : AS) : evC E call n 43 (E.at 43 []) 0 (enumT 0 [(.ptr x0), (.int .i64 x1), (.sl x2a x2l x2c)]) S (retK E (E.fn 43)) = b43_entry call n (r43_j1_1_1_1 call n ) x0 x1 x2a x2l x2c S := by kernel_rfl
def J43_j1_1_1_1 (call : CallA) (n : Nat)  (w0 : Option Pos) (w1 : Int) (w2a : Option Pos) (w2l : Nat) (w2c : Cap) (S : AS) : Option (AV × AS) := b43_j1_1_1_1 call n  w0 w1 w2a w2l w2c S
theorem h43_j1_1_1_1 (call : CallA) (n : Nat)  : r43_j1_1_1_1 call n  = J43_j1_1_1_1 call n  := by
  funext w0 w1 w2a w2l w2c S
  rw [J43_j1_1_1_1, a43_j1_1_1_1]
def J43 (call : CallA) (n : Nat) (x0 : Option Pos) (x1 : Int) (x2a : Option Pos) (x2l : Nat) (x2c : Cap) (S : AS) : Option (AV × AS) := b43_entry call n (J43_j1_1_1_1 call n ) x0 x1 x2a x2l x2c S
theorem run43 (o : Orc) (n : Nat) (args : List AV) (S : AS) (ho : o 43 args = none) : evF E o (n + 1) (.fn 43) args S = evC E (evF E o n) n 43 (E.at 43 []) 0 (enumT 0 args) S (retK E (E.fn 43)) := by
  rw [evF, ho]; kernel_rfl
theorem J43_eq (call : CallA) (n : Nat) (x0 : Option Pos) (x1 : Int) (x2a : Option Pos) (x2l : Nat) (x2c : Cap) (S : AS) : evC E call n 43 (E.at 43 []) 0 (enumT 0 [(.ptr x0), (.int .i64 x1), (.sl x2a x2l x2c)]) S (retK E (E.fn 43)) = J43 call n x0 x1 x2a x2l x2c S := by
  rw [J43, a43_entry, h43_j1_1_1_1 call n ]
theorem F43 {o : Orc} (n : Nat) (x0 : Option Pos) (x1 : Int) (x2a : Option Pos) (x2l : Nat) (x2c : Cap) (S : AS) (ho : ∀ args, o 43 args = none) : evF E o (n + 1) (.fn 43) [(.ptr x0), (.int .i64 x1), (.sl x2a x2l x2c)] S = J43 (evF E o n) n x0 x1 x2a x2l x2c S := (run43 o n [(.ptr x0), (.int .i64 x1), (.sl x2a x2l x2c)] S (ho _)).trans (J43_eq _ _ x0 x1 x2a x2l x2c S)
def b44_l1_0_1_0 (call : CallA) (n : Nat)  (l1_0_1_0 : Option Pos → Int → AS → Option (AV × AS)) (j1_1 : Option Pos → AS → Option (AV × AS)) (w0 : Option Pos) (w3 : Int) (S : AS) : Option (AV × AS) :=
 gO w0 fun p1 =>
 ldL S p1.1 (p1.2 + 1) fun v2a v2l v2c =>
 cond (decide (w3 < ((v2l : Nat) : Int))) (
 gO w0 fun p3 =>
 ldL S p3.1 p3.2 fun v4a v4l v4c =>
 gO w0 fun p5 =>
 ldL S p5.1 (p5.2 + 1) fun v6a v6l v6c =>
 ixSl 2 v6a v6l w3 fun p7 =>
 ldI .i64 S p7.1 p7.2 fun v8 =>
 gO w0 fun p9 =>
 ldL S p9.1 (p9.2 + 1) fun v10a v10l v10c =>
 ixSl 2 v10a v10l w3 fun p11 =>
 ldS S p11.1 (p11.2 + 1) fun v12 =>
 ixSl 1 v4a v4l v8 fun p13 =>
 S.stn p13.1 p13.2 [(.str v12)] fun S14 =>
 l1_0_1_0 w0 (IntKind.wrap .i64 (w3 + 1)) S14) (
 j1_1 w0 S)

def b44_j1_1 (call : CallA) (n : Nat)   (w0 : Option Pos) (S : AS) : Option (AV × AS) :=
 gO w0 fun p15 =>
 S.stn p15.1 (p15.2 + 1) [(.sl none 0 (.ex 0))] fun S16 =>
 some ((.int .i64 0), S16)

def b44_entry (call : CallA) (n : Nat)  (l1_0_1_0 : Option Pos → Int → AS → Option (AV × AS)) (x0 : Option Pos) (S : AS) : Option (AV × AS) :=
 l1_0_1_0 x0 0 S

def r44_l1_0_1_0 (call : CallA) (n : Nat)  (m : Nat) (w0 : Option Pos) (w3 : Int) (S : AS) : Option (AV × AS) := loopN (evC E call n 44 (E.at 44 [1, 0, 1, 0, 0]) 0) [0, 3] m [(0, (.ptr w0)), (3, (.int .i64 w3))] S (kBlk 0 (kSeq E call n 44 (E.at 44 [1, 1]) 0 (retK E (E.fn 44))))
def r44_j1_1 (call : CallA) (n : Nat)  (w0 : Option Pos) (S : AS) : Option (AV × AS) := evC E call n 44 (E.at 44 [1, 1]) 0 [(0, (.ptr w0))] S (retK E (E.fn 44))
theorem a44_l1_0_1_0 (call : CallA) (n : Nat)  (m : Nat) (w0 : Option Pos) (w3 : Int) (S : AS) : r44_l1_0_1_0 call n  (m + 1) w0 w3 S = b44_l1_0_1_0 call n (r44_l1_0_1_0 call n  m) (r44_j1_1 call n ) w0 w3 S := by kernel_rfl
theorem a44_j1_1 (call : CallA) (n : Nat)  (w0 : Option Pos) (S : AS) : r44_j1_1 call n  w0 S = b44_j1_1 call n  w0 S := by kernel_rfl
theorem a44_entry (call : CallA) (n : Nat) (x0 : Option Pos) (S : AS) : evC E call n 44 (E.at 44 []) 0 (enumT 0 [(.ptr x0)]) S (retK E (E.fn 44)) = b44_entry call n (r44_l1_0_1_0 call n  n) x0 S := by kernel_rfl
def J44_j1_1 (call : CallA) (n : Nat)  (w0 : Option Pos) (S : AS) : Option (AV × AS) := b44_j1_1 call n  w0 S
theorem h44_j1_1 (call : CallA) (n : Nat)  : r44_j1_1 call n  = J44_j1_1 call n  := by
  funext w0 S
  rw [J44_j1_1, a44_j1_1]
def J44_l1_0_1_0 (call : CallA) (n : Nat)  (m : Nat) : Option Pos → Int → AS → Option (AV × AS) := Nat.rec (motive := fun _ => Option Pos → Int → AS → Option (AV × AS)) (fun _ _ _ => none) (fun mK ih w0 w3 S => b44_l1_0_1_0 call n ih (J44_j1_1 call n ) w0 w3 S) m
theorem J44_l1_0_1_0_succ (call : CallA) (n : Nat)  (m : Nat) (w0 : Option Pos) (w3 : Int) (S : AS) : J44_l1_0_1_0 call n  (m + 1) w0 w3 S = b44_l1_0_1_0 call n (J44_l1_0_1_0 call n  m) (J44_j1_1 call n ) w0 w3 S := rfl
theorem h44_l1_0_1_0 (call : CallA) (n : Nat)  (m : Nat) : r44_l1_0_1_0 call n  m = J44_l1_0_1_0 call n  m := by
  induction m with
  | zero => rfl
  | succ m ih =>
    funext w0 w3 S
    rw [J44_l1_0_1_0_succ, a44_l1_0_1_0, h44_j1_1 call n , ih]
def J44 (call : CallA) (n : Nat) (x0 : Option Pos) (S : AS) : Option (AV × AS) := b44_entry call n (J44_l1_0_1_0 call n  n) x0 S
theorem run44 (o : Orc) (n : Nat) (args : List AV) (S : AS) (ho : o 44 args = none) : evF E o (n + 1) (.fn 44) args S = evC E (evF E o n) n 44 (E.at 44 []) 0 (enumT 0 args) S (retK E (E.fn 44)) := by
  rw [evF, ho]; kernel_rfl
theorem J44_eq (call : CallA) (n : Nat) (x0 : Option Pos) (S : AS) : evC E call n 44 (E.at 44 []) 0 (enumT 0 [(.ptr x0)]) S (retK E (E.fn 44)) = J44 call n x0 S := by
  rw [J44, a44_entry, h44_l1_0_1_0 call n  n]
theorem F44 {o : Orc} (n : Nat) (x0 : Option Pos) (S : AS) (ho : ∀ args, o 44 args = none) : evF E o (n + 1) (.fn 44) [(.ptr x0)] S = J44 (evF E o n) n x0 S := (run44 o n [(.ptr x0)] S (ho _)).trans (J44_eq _ _ x0 S)
def b45_entry (call : CallA) (n : Nat)   (x0 : List AV) (S : AS) : Option (AV × AS) :=
 ifO (x0.length = 6) <|
 newA S (.cells x0) fun b1 S2 =>
 ldI .u64 S2 (.rw b1) 0 fun v3 =>
 cond (v3 == 0) (
 some (.tup [(.sl none 0 (.ex 0)), (.int .i64 81)], S2)) (
 ldI .u64 S2 (.rw b1) 1 fun v4 =>
 cond (v4 == 0) (
 some (.tup [(.sl none 0 (.ex 0)), (.int .i64 81)], S2)) (
 ldI .u64 S2 (.rw b1) 0 fun v5 =>
 cond (decide (v5 > 4611686018427387904)) (
 some (.tup [(.sl none 0 (.ex 0)), (.int .i64 81)], S2)) (
 ldI .u64 S2 (.rw b1) 1 fun v6 =>
 cond (decide (v6 > 4611686018427387904)) (
 some (.tup [(.sl none 0 (.ex 0)), (.int .i64 81)], S2)) (
 ldI .u64 S2 (.rw b1) 2 fun v7 =>
 cond (decide (v7 > 4611686018427387904)) (
 some (.tup [(.sl none 0 (.ex 0)), (.int .i64 81)], S2)) (
 ldI .u64 S2 (.rw b1) 3 fun v8 =>
 cond (decide (v8 > 4611686018427387904)) (
 some (.tup [(.sl none 0 (.ex 0)), (.int .i64 81)], S2)) (
 ldI .u64 S2 (.rw b1) 4 fun v9 =>
 cond (decide (v9 > 4611686018427387904)) (
 some (.tup [(.sl none 0 (.ex 0)), (.int .i64 81)], S2)) (
 ldI .u64 S2 (.rw b1) 5 fun v10 =>
 cond (decide (v10 > 4611686018427387904)) (
 some (.tup [(.sl none 0 (.ex 0)), (.int .i64 81)], S2)) (
 drawA S2 9 fun b11 S12 =>
 layA S12 (b11 + 0) (.cells [(.int .u8 74), (.int .u8 83), (.int .u8 85), (.int .u8 80)]) fun S13 =>
 convLL S13 (some (.rw (b11 + 0), 0)) 4 (.ex 4) fun v15a v15l v15c S14 =>
 ldI .u64 S14 (.rw b1) 0 fun v16 =>
 ldI .u64 S12 (.rw b1) 0 fun v17 =>
 cond (AV.beq (.int .u64 v17) (.int .u64 v16)) (
 callL call 32 [(.sl v15a v15l v15c), (.int .u64 v16), (.int .i64 8)] S14 fun v19a v19l v19c S18 =>
 ldI .u64 S18 (.rw b1) 1 fun v20 =>
 ldI .u64 S14 (.rw b1) 1 fun v21 =>
 cond (AV.beq (.int .u64 v21) (.int .u64 v20)) (
 ldI .u64 S12 (.rw b1) 1 fun v22 =>
 cond (AV.beq (.int .u64 v22) (.int .u64 v20)) (
 callL call 32 [(.sl v19a v19l v19c), (.int .u64 v20), (.int .i64 8)] S18 fun v24a v24l v24c S23 =>
 ldI .u64 S23 (.rw b1) 2 fun v25 =>
 callL call 32 [(.sl v24a v24l v24c), (.int .u64 v25), (.int .i64 8)] S23 fun v27a v27l v27c S26 =>
 ldI .u64 S26 (.rw b1) 3 fun v28 =>
 ldI .u64 S23 (.rw b1) 3 fun v29 =>
 cond (AV.beq (.int .u64 v29) (.int .u64 v28)) (
 callL call 32 [(.sl v27a v27l v27c), (.int .u64 v28), (.int .i64 8)] S26 fun v31a v31l v31c S30 =>
 ldI .u64 S30 (.rw b1) 4 fun v32 =>
 callL call 32 [(.sl v31a v31l v31c), (.int .u64 v32), (.int .i64 8)] S30 fun v34a v34l v34c S33 =>
 ldI .u64 S33 (.rw b1) 5 fun v35 =>
 ldI .u64 S30 (.rw b1) 5 fun v36 =>
 cond (AV.beq (.int .u64 v36) (.int .u64 v35)) (
 callL call 32 [(.sl v34a v34l v34c), (.int .u64 v35), (.int .i64 8)] S33 fun v38a v38l v38c S37 =>
 callL call 58 [(.sl v38a v38l v38c)] S37 fun v40a v40l v40c S39 =>
 some (.tup [(.sl v40a v40l v40c), (.int .i64 0)], S39)) none) none) none) none) none))))))))

theorem a45_entry (call : CallA) (n : Nat) (x0 : List AV) (S : AS) : evC E call n 45 (E.at 45 []) 0 (enumT 0 [(.agg x0)]) S (retK E (E.fn 45)) = b45_entry call n  x0 S := by kernel_rfl
def J45 (call : CallA) (n : Nat) (x0 : List AV) (S : AS) : Option (AV × AS) := b45_entry call n  x0 S
theorem run45 (o : Orc) (n : Nat) (args : List AV) (S : AS) (ho : o 45 args = none) : evF E o (n + 1) (.fn 45) args S = evC E (evF E o n) n 45 (E.at 45 []) 0 (enumT 0 args) S (retK E (E.fn 45)) := by
  rw [evF, ho]; kernel_rfl
theorem J45_eq (call : CallA) (n : Nat) (x0 : List AV) (S : AS) : evC E call n 45 (E.at 45 []) 0 (enumT 0 [(.agg x0)]) S (retK E (E.fn 45)) = J45 call n x0 S := by
  rw [J45, a45_entry]
theorem F45 {o : Orc} (n : Nat) (x0 : List AV) (S : AS) (ho : ∀ args, o 45 args = none) : evF E o (n + 1) (.fn 45) [(.agg x0)] S = J45 (evF E o n) n x0 S := (run45 o n [(.agg x0)] S (ho _)).trans (J45_eq _ _ x0 S)
end
end Go.Jn
