/- Plain readings of the functions, and that they are what the evaluator does: by program. -/
import Derived.Test.YtjninokocidaaaaGrRes
import Derived.Test.YtjninokocidaaaaENV
import Derived.KernelRfl
set_option maxRecDepth 100000
set_option linter.unusedVariables false
namespace Go.Al
open Go.Gr
noncomputable section
def b18_l1_1_1_1_0_1_0 (call : CallA) (n : Nat) (l1_1_1_1_0_1_0 : Option Pos → Option Pos → Nat → Cap → Option Pos → Nat → Cap → Option Pos → Nat → Cap → Int → Int → AS → Option (AV × AS)) (j1_1_1_1_1 : Option Pos → Option Pos → Nat → Cap → Option Pos → Nat → Cap → AS → Option (AV × AS)) (w0 : Option Pos) (w4a : Option Pos) (w4l : Nat) (w4c : Cap) (w5a : Option Pos) (w5l : Nat) (w5c : Cap) (w27a : Option Pos) (w27l : Nat) (w27c : Cap) (w28 : Int) (w29 : Int) (S : AS) : Option (AV × AS) :=
 cond (decide (w29 < w28)) (
 ixSl 1 w27a w27l w29 fun p9 =>
 ldI .i64 S p9.1 p9.2 fun v10 =>
 callT call 42 [(.ptr w0), (.int .i64 v10), (.int .i64 1)] S fun v12 S11 =>
 l1_1_1_1_0_1_0 w0 w4a w4l w4c w5a w5l w5c w27a w27l w27c w28 (IntKind.wrap .i64 (w29 + 1)) S11) (
 j1_1_1_1_1 w0 w4a w4l w4c w5a w5l w5c S)

def b18_j1_1_1_1_1 (call : CallA) (n : Nat) (j1_1_1_1_1_1_1 : Option Pos → Option Pos → Nat → Cap → Option Pos → Nat → Cap → Int → AS → Option (AV × AS)) (w0 : Option Pos) (w4a : Option Pos) (w4l : Nat) (w4c : Cap) (w5a : Option Pos) (w5l : Nat) (w5c : Cap) (S : AS) : Option (AV × AS) :=
 gO w0 fun p13 =>
 ldI .i64 S p13.1 (p13.2 + 2) fun v14 =>
 cond (decide (v14 > 0)) (
 j1_1_1_1_1_1_1 w0 w4a w4l w4c w5a w5l w5c 4 S) (
 j1_1_1_1_1_1_1 w0 w4a w4l w4c w5a w5l w5c 0 S)

def b18_j1_1_1_1_1_1_1 (call : CallA) (n : Nat) (l1_1_1_1_1_1_1_0_1_0 : Option Pos → Option Pos → Nat → Cap → Option Pos → Nat → Cap → Int → Option Pos → Nat → Cap → Int → Int → AS → Option (AV × AS)) (w0 : Option Pos) (w4a : Option Pos) (w4l : Nat) (w4c : Cap) (w5a : Option Pos) (w5l : Nat) (w5c : Cap) (w8 : Int) (S : AS) : Option (AV × AS) :=
 l1_1_1_1_1_1_1_0_1_0 w0 w4a w4l w4c w5a w5l w5c w8 w5a w5l w5c ((w5l : Nat) : Int) 0 S

def b18_l1_1_1_1_1_1_1_0_1_0 (call : CallA) (n : Nat) (l1_1_1_1_1_1_1_0_1_0 : Option Pos → Option Pos → Nat → Cap → Option Pos → Nat → Cap → Int → Option Pos → Nat → Cap → Int → Int → AS → Option (AV × AS)) (j1_1_1_1_1_1_1_1 : Option Pos → Nat → Cap → Option Pos → Nat → Cap → AS → Option (AV × AS)) (w0 : Option Pos) (w4a : Option Pos) (w4l : Nat) (w4c : Cap) (w5a : Option Pos) (w5l : Nat) (w5c : Cap) (w8 : Int) (w42a : Option Pos) (w42l : Nat) (w42c : Cap) (w43 : Int) (w44 : Int) (S : AS) : Option (AV × AS) :=
 cond (decide (w44 < w43)) (
 ixSl 1 w42a w42l w44 fun p15 =>
 ldI .i64 S p15.1 p15.2 fun v16 =>
 callT call 42 [(.ptr w0), (.int .i64 v16), (.int .i64 w8)] S fun v18 S17 =>
 l1_1_1_1_1_1_1_0_1_0 w0 w4a w4l w4c w5a w5l w5c w8 w42a w42l w42c w43 (IntKind.wrap .i64 (w44 + 1)) S17) (
 j1_1_1_1_1_1_1_1 w4a w4l w4c w5a w5l w5c S)

def b18_j1_1_1_1_1_1_1_1 (call : CallA) (n : Nat)  (w4a : Option Pos) (w4l : Nat) (w4c : Cap) (w5a : Option Pos) (w5l : Nat) (w5c : Cap) (S : AS) : Option (AV × AS) :=
 callT call 43 [(.sl w4a w4l w4c)] S fun v20 S19 =>
 callT call 43 [(.sl w5a w5l w5c)] S19 fun v22 S21 =>
 some (.tup [(.sl w4a w4l w4c), (.sl w5a w5l w5c)], S21)

def b18_entry (call : CallA) (n : Nat) (l1_1_1_1_0_1_0 : Option Pos → Option Pos → Nat → Cap → Option Pos → Nat → Cap → Option Pos → Nat → Cap → Int → Int → AS → Option (AV × AS)) (x0 : Option Pos) (S : AS) : Option (AV × AS) :=
 cond x0.isNone (
 some (.tup [(.sl none 0 (.ex 0)), (.sl none 0 (.ex 0))], S)) (
 gO x0 fun p1 =>
 ldL S p1.1 (p1.2 + 3) fun v2a v2l v2c =>
 gO x0 fun p3 =>
 ldL S p3.1 (p3.2 + 4) fun v4a v4l v4c =>
 gO x0 fun p5 =>
 S.stn p5.1 (p5.2 + 3) [(.sl none 0 (.ex 0))] fun S6 =>
 gO x0 fun p7 =>
 S6.stn p7.1 (p7.2 + 4) [(.sl none 0 (.ex 0))] fun S8 =>
 l1_1_1_1_0_1_0 x0 v2a v2l v2c v4a v4l v4c v2a v2l v2c ((v2l : Nat) : Int) 0 S8)

def r18_l1_1_1_1_0_1_0 (call : CallA) (n : Nat)  (m : Nat) (w0 : Option Pos) (w4a : Option Pos) (w4l : Nat) (w4c : Cap) (w5a : Option Pos) (w5l : Nat) (w5c : Cap) (w27a : Option Pos) (w27l : Nat) (w27c : Cap) (w28 : Int) (w29 : Int) (S : AS) : Option (AV × AS) := loopN (evC E call n 18 (E.at 18 [1, 1, 1, 1, 0, 1, 0, 0]) 0) [0, 4, 5, 27, 28, 29] m [(0, (.ptr w0)), (4, (.sl w4a w4l w4c)), (5, (.sl w5a w5l w5c)), (27, (.sl w27a w27l w27c)), (28, (.int .i64 w28)), (29, (.int .i64 w29))] S (kBlk 0 (kSeq E call n 18 (E.at 18 [1, 1, 1, 1, 1]) 0 (retK E (E.fn 18))))
def r18_j1_1_1_1_1 (call : CallA) (n : Nat)  (w0 : Option Pos) (w4a : Option Pos) (w4l : Nat) (w4c : Cap) (w5a : Option Pos) (w5l : Nat) (w5c : Cap) (S : AS) : Option (AV × AS) := evC E call n 18 (E.at 18 [1, 1, 1, 1, 1]) 0 [(0, (.ptr w0)), (4, (.sl w4a w4l w4c)), (5, (.sl w5a w5l w5c))] S (retK E (E.fn 18))
def r18_j1_1_1_1_1_1_1 (call : CallA) (n : Nat)  (w0 : Option Pos) (w4a : Option Pos) (w4l : Nat) (w4c : Cap) (w5a : Option Pos) (w5l : Nat) (w5c : Cap) (w8 : Int) (S : AS) : Option (AV × AS) := evC E call n 18 (E.at 18 [1, 1, 1, 1, 1, 1, 1]) 0 [(0, (.ptr w0)), (4, (.sl w4a w4l w4c)), (5, (.sl w5a w5l w5c)), (8, (.int .i64 w8))] S (retK E (E.fn 18))
def r18_l1_1_1_1_1_1_1_0_1_0 (call : CallA) (n : Nat)  (m : Nat) (w0 : Option Pos) (w4a : Option Pos) (w4l : Nat) (w4c : Cap) (w5a : Option Pos) (w5l : Nat) (w5c : Cap) (w8 : Int) (w42a : Option Pos) (w42l : Nat) (w42c : Cap) (w43 : Int) (w44 : Int) (S : AS) : Option (AV × AS) := loopN (evC E call n 18 (E.at 18 [1, 1, 1, 1, 1, 1, 1, 0, 1, 0, 0]) 2) [0, 4, 5, 8, 42, 43, 44] m [(0, (.ptr w0)), (4, (.sl w4a w4l w4c)), (5, (.sl w5a w5l w5c)), (8, (.int .i64 w8)), (42, (.sl w42a w42l w42c)), (43, (.int .i64 w43)), (44, (.int .i64 w44))] S (kBlk 2 (kSeq E call n 18 (E.at 18 [1, 1, 1, 1, 1, 1, 1, 1]) 0 (retK E (E.fn 18))))
def r18_j1_1_1_1_1_1_1_1 (call : CallA) (n : Nat)  (w4a : Option Pos) (w4l : Nat) (w4c : Cap) (w5a : Option Pos) (w5l : Nat) (w5c : Cap) (S : AS) : Option (AV × AS) := evC E call n 18 (E.at 18 [1, 1, 1, 1, 1, 1, 1, 1]) 0 [(4, (.sl w4a w4l w4c)), (5, (.sl w5a w5l w5c))] S (retK E (E.fn 18))
theorem a18_l1_1_1_1_0_1_0 (call : CallA) (n : Nat)  (m : Nat) (w0 : Option Pos) (w4a : Option Pos) (w4l : Nat) (w4c : Cap) (w5a : Option Pos) (w5l : Nat) (w5c : Cap) (w27a : Option Pos) (w27l : Nat) (w27c : Cap) (w28 : Int) (w29 : Int) (S : AS) : r18_l1_1_1_1_0_1_0 call n  (m + 1) w0 w4a w4l w4c w5a w5l w5c w27a w27l w27c w28 w29 S = b18_l1_1_1_1_0_1_0 call n (r18_l1_1_1_1_0_1_0 call n  m) (r18_j1_1_1_1_1 call n ) w0 w4a w4l w4c w5a w5l w5c w27a w27l w27c w28 w29 S := by kernel_rfl
theorem a18_j1_1_1_1_1 (call : CallA) (n : Nat)  (w0 : Option Pos) (w4a : Option Pos) (w4l : Nat) (w4c : Cap) (w5a : Option Pos) (w5l : Nat) (w5c : Cap) (S : AS) : r18_j1_1_1_1_1 call n  w0 w4a w4l w4c w5a w5l w5c S = b18_j1_1_1_1_1 call n (r18_j1_1_1_1_1_1_1 call n ) w0 w4a w4l w4c w5a w5l w5c S := by kernel_rfl
theorem a18_j1_1_1_1_1_1_1 (call : CallA) (n : Nat)  (w0 : Option Pos) (w4a : Option Pos) (w4l : Nat) (w4c : Cap) (w5a : Option Pos) (w5l : Nat) (w5c : Cap) (w8 : Int) (S : AS) : r18_j1_1_1_1_1_1_1 call n  w0 w4a w4l w4c w5a w5l w5c w8 S = b18_j1_1_1_1_1_1_1 call n (r18_l1_1_1_1_1_1_1_0_1_0 call n  n) w0 w4a w4l w4c w5a w5l w5c w8 S := by kernel_rfl
theorem a18_l1_1_1_1_1_1_1_0_1_0 (call : CallA) (n : Nat)  (m : Nat) (w0 : Option Pos) (w4a : Option Pos) (w4l : Nat) (w4c : Cap) (w5a : Option Pos) (w5l : Nat) (w5c : Cap) (w8 : Int) (w42a : Option Pos) (w42l : Nat) (w42c : Cap) (w43 : Int) (w44 : Int) (S : AS) : r18_l1_1_1_1_1_1_1_0_1_0 call n  (m + 1) w0 w4a w4l w4c w5a w5l w5c w8 w42a w42l w42c w43 w44 S = b18_l1_1_1_1_1_1_1_0_1_0 call n (r18_l1_1_1_1_1_1_1_0_1_0 call n  m) (r18_j1_1_1_1_1_1_1_1 call n ) w0 w4a w4l w4c w5a w5l w5c w8 w42a w42l w42c w43 w44 S := by kernel_rfl
theorem a18_j1_1_1_1_1_1_1_1 (call : CallA) (n : Nat)  (w4a : Option Pos) (w4l : Nat) (w4c : Cap) (w5a : Option Pos) (w5l : Nat) (w5c : Cap) (S : AS) : r18_j1_1_1_1_1_1_1_1 call n  w4a w4l w4c w5a w5l w5c S = b18_j1_1_1_1_1_1_1_1 call n  w4a w4l w4c w5a w5l w5c S := by kernel_rfl
theorem a18_entry (call : CallA) (n : Nat) (x0 : Option Pos) (S : AS) : evC E call n 18 (E.at 18 []) 0 (enumT 0 [(.ptr x0)]) S (retK E (E.fn 18)) = b18_entry call n (r18_l1_1_1_1_0_1_0 call n  n) x0 S := by kernel_rfl
def J18_j1_1_1_1_1_1_1_1 (call : CallA) (n : Nat)  (w4a : Option Pos) (w4l : Nat) (w4c : Cap) (w5a : Option Pos) (w5l : Nat) (w5c : Cap) (S : AS) : Option (AV × AS) := b18_j1_1_1_1_1_1_1_1 call n  w4a w4l w4c w5a w5l w5c S
theorem h18_j1_1_1_1_1_1_1_1 (call : CallA) (n : Nat)  : r18_j1_1_1_1_1_1_1_1 call n  = J18_j1_1_1_1_1_1_1_1 call n  := by
  funext w4a w4l w4c w5a w5l w5c S
  rw [J18_j1_1_1_1_1_1_1_1, a18_j1_1_1_1_1_1_1_1]
def J18_l1_1_1_1_1_1_1_0_1_0 (call : CallA) (n : Nat)  (m : Nat) : Option Pos → Option Pos → Nat → Cap → Option Pos → Nat → Cap → Int → Option Pos → Nat → Cap → Int → Int → AS → Option (AV × AS) := Nat.rec (motive := fun _ => Option Pos → Option Pos → Nat → Cap → Option Pos → Nat → Cap → Int → Option Pos → Nat → Cap → Int → Int → AS → Option (AV × AS)) (fun _ _ _ _ _ _ _ _ _ _ _ _ _ _ => none) (fun _ ih w0 w4a w4l w4c w5a w5l w5c w8 w42a w42l w42c w43 w44 S => b18_l1_1_1_1_1_1_1_0_1_0 call n ih (J18_j1_1_1_1_1_1_1_1 call n ) w0 w4a w4l w4c w5a w5l w5c w8 w42a w42l w42c w43 w44 S) m
theorem J18_l1_1_1_1_1_1_1_0_1_0_succ (call : CallA) (n : Nat)  (m : Nat) (w0 : Option Pos) (w4a : Option Pos) (w4l : Nat) (w4c : Cap) (w5a : Option Pos) (w5l : Nat) (w5c : Cap) (w8 : Int) (w42a : Option Pos) (w42l : Nat) (w42c : Cap) (w43 : Int) (w44 : Int) (S : AS) : J18_l1_1_1_1_1_1_1_0_1_0 call n  (m + 1) w0 w4a w4l w4c w5a w5l w5c w8 w42a w42l w42c w43 w44 S = b18_l1_1_1_1_1_1_1_0_1_0 call n (J18_l1_1_1_1_1_1_1_0_1_0 call n  m) (J18_j1_1_1_1_1_1_1_1 call n ) w0 w4a w4l w4c w5a w5l w5c w8 w42a w42l w42c w43 w44 S := rfl
theorem h18_l1_1_1_1_1_1_1_0_1_0 (call : CallA) (n : Nat)  (m : Nat) : r18_l1_1_1_1_1_1_1_0_1_0 call n  m = J18_l1_1_1_1_1_1_1_0_1_0 call n  m := by
  induction m with
  | zero => rfl
  | succ m ih =>
    funext w0 w4a w4l w4c w5a w5l w5c w8 w42a w42l w42c w43 w44 S
    rw [J18_l1_1_1_1_1_1_1_0_1_0_succ, a18_l1_1_1_1_1_1_1_0_1_0, h18_j1_1_1_1_1_1_1_1 call n , ih]
def J18_j1_1_1_1_1_1_1 (call : CallA) (n : Nat)  (w0 : Option Pos) (w4a : Option Pos) (w4l : Nat) (w4c : Cap) (w5a : Option Pos) (w5l : Nat) (w5c : Cap) (w8 : Int) (S : AS) : Option (AV × AS) := b18_j1_1_1_1_1_1_1 call n (J18_l1_1_1_1_1_1_1_0_1_0 call n  n) w0 w4a w4l w4c w5a w5l w5c w8 S
theorem h18_j1_1_1_1_1_1_1 (call : CallA) (n : Nat)  : r18_j1_1_1_1_1_1_1 call n  = J18_j1_1_1_1_1_1_1 call n  := by
  funext w0 w4a w4l w4c w5a w5l w5c w8 S
  rw [J18_j1_1_1_1_1_1_1, a18_j1_1_1_1_1_1_1, h18_l1_1_1_1_1_1_1_0_1_0 call n  n]
def J18_j1_1_1_1_1 (call : CallA) (n : Nat)  (w0 : Option Pos) (w4a : Option Pos) (w4l : Nat) (w4c : Cap) (w5a : Option Pos) (w5l : Nat) (w5c : Cap) (S : AS) : Option (AV × AS) := b18_j1_1_1_1_1 call n (J18_j1_1_1_1_1_1_1 call n ) w0 w4a w4l w4c w5a w5l w5c S
theorem h18_j1_1_1_1_1 (call : CallA) (n : Nat)  : r18_j1_1_1_1_1 call n  = J18_j1_1_1_1_1 call n  := by
  funext w0 w4a w4l w4c w5a w5l w5c S
  rw [J18_j1_1_1_1_1, a18_j1_1_1_1_1, h18_j1_1_1_1_1_1_1 call n ]
def J18_l1_1_1_1_0_1_0 (call : CallA) (n : Nat)  (m : Nat) : Option Pos → Option Pos → Nat → Cap → Option Pos → Nat → Cap → Option Pos → Nat → Cap → Int → Int → AS → Option (AV × AS) := Nat.rec (motive := fun _ => Option Pos → Option Pos → Nat → Cap → Option Pos → Nat → Cap → Option Pos → Nat → Cap → Int → Int → AS → Option (AV × AS)) (fun _ _ _ _ _ _ _ _ _ _ _ _ _ => none) (fun _ ih w0 w4a w4l w4c w5a w5l w5c w27a w27l w27c w28 w29 S => b18_l1_1_1_1_0_1_0 call n ih (J18_j1_1_1_1_1 call n ) w0 w4a w4l w4c w5a w5l w5c w27a w27l w27c w28 w29 S) m
theorem J18_l1_1_1_1_0_1_0_succ (call : CallA) (n : Nat)  (m : Nat) (w0 : Option Pos) (w4a : Option Pos) (w4l : Nat) (w4c : Cap) (w5a : Option Pos) (w5l : Nat) (w5c : Cap) (w27a : Option Pos) (w27l : Nat) (w27c : Cap) (w28 : Int) (w29 : Int) (S : AS) : J18_l1_1_1_1_0_1_0 call n  (m + 1) w0 w4a w4l w4c w5a w5l w5c w27a w27l w27c w28 w29 S = b18_l1_1_1_1_0_1_0 call n (J18_l1_1_1_1_0_1_0 call n  m) (J18_j1_1_1_1_1 call n ) w0 w4a w4l w4c w5a w5l w5c w27a w27l w27c w28 w29 S := rfl
theorem h18_l1_1_1_1_0_1_0 (call : CallA) (n : Nat)  (m : Nat) : r18_l1_1_1_1_0_1_0 call n  m = J18_l1_1_1_1_0_1_0 call n  m := by
  induction m with
  | zero => rfl
  | succ m ih =>
    funext w0 w4a w4l w4c w5a w5l w5c w27a w27l w27c w28 w29 S
    rw [J18_l1_1_1_1_0_1_0_succ, a18_l1_1_1_1_0_1_0, h18_j1_1_1_1_1 call n , ih]
def J18 (call : CallA) (n : Nat) (x0 : Option Pos) (S : AS) : Option (AV × AS) := b18_entry call n (J18_l1_1_1_1_0_1_0 call n  n) x0 S
theorem run18 (o : Orc) (n : Nat) (args : List AV) (S : AS) (ho : o 18 args = none) : evF E o (n + 1) (.fn 18) args S = evC E (evF E o n) n 18 (E.at 18 []) 0 (enumT 0 args) S (retK E (E.fn 18)) := by
  rw [evF, ho]; kernel_rfl
theorem J18_eq (call : CallA) (n : Nat) (x0 : Option Pos) (S : AS) : evC E call n 18 (E.at 18 []) 0 (enumT 0 [(.ptr x0)]) S (retK E (E.fn 18)) = J18 call n x0 S := by
  rw [J18, a18_entry, h18_l1_1_1_1_0_1_0 call n  n]
theorem F18 {o : Orc} (n : Nat) (x0 : Option Pos) (S : AS) (ho : ∀ args, o 18 args = none) : evF E o (n + 1) (.fn 18) [(.ptr x0)] S = J18 (evF E o n) n x0 S := (run18 o n [(.ptr x0)] S (ho _)).trans (J18_eq _ _ x0 S)
def b19_entry (call : CallA) (n : Nat)  (x0 : Option Pos) (x1 : Int) (S : AS) : Option (AV × AS) :=
 cond x0.isNone (
 some ((.int .i64 (-1)), S)) (
 callB call 39 [(.ptr x0), (.int .i64 x1)] S fun v2 S1 =>
 cond (!v2) (
 some ((.int .i64 (-1)), S1)) (
 gO x0 fun p3 =>
 ldL S1 p3.1 p3.2 fun v4a v4l v4c =>
 ixSl 1 v4a v4l x1 fun p5 =>
 ldI .u8 S1 p5.1 p5.2 fun v6 =>
 some ((.int .i64 (IntKind.wrap .i64 v6)), S1)))

theorem a19_entry (call : CallA) (n : Nat) (x0 : Option Pos) (x1 : Int) (S : AS) : evC E call n 19 (E.at 19 []) 0 (enumT 0 [(.ptr x0), (.int .i64 x1)]) S (retK E (E.fn 19)) = b19_entry call n  x0 x1 S := by kernel_rfl
def J19 (call : CallA) (n : Nat) (x0 : Option Pos) (x1 : Int) (S : AS) : Option (AV × AS) := b19_entry call n  x0 x1 S
theorem run19 (o : Orc) (n : Nat) (args : List AV) (S : AS) (ho : o 19 args = none) : evF E o (n + 1) (.fn 19) args S = evC E (evF E o n) n 19 (E.at 19 []) 0 (enumT 0 args) S (retK E (E.fn 19)) := by
  rw [evF, ho]; kernel_rfl
theorem J19_eq (call : CallA) (n : Nat) (x0 : Option Pos) (x1 : Int) (S : AS) : evC E call n 19 (E.at 19 []) 0 (enumT 0 [(.ptr x0), (.int .i64 x1)]) S (retK E (E.fn 19)) = J19 call n x0 x1 S := by
  rw [J19, a19_entry]
theorem F19 {o : Orc} (n : Nat) (x0 : Option Pos) (x1 : Int) (S : AS) (ho : ∀ args, o 19 args = none) : evF E o (n + 1) (.fn 19) [(.ptr x0), (.int .i64 x1)] S = J19 (evF E o n) n x0 x1 S := (run19 o n [(.ptr x0), (.int .i64 x1)] S (ho _)).trans (J19_eq _ _ x0 x1 S)
def b20_entry (call : CallA) (n : Nat)  (x0 : Option Pos) (x1 : Int) (S : AS) : Option (AV × AS) :=
 cond x0.isNone (
 some (.tup [(.int .i64 0), (.int .i64 7)], S)) (
 callB call 39 [(.ptr x0), (.int .i64 x1)] S fun v2 S1 =>
 cond (!v2) (
 some (.tup [(.int .i64 0), (.int .i64 2)], S1)) (
 gO x0 fun p3 =>
 ldI .i64 S1 p3.1 (p3.2 + 1) fun v4 =>
 cond (v4 == 0) (
 some (.tup [(.int .i64 0), (.int .i64 100)], S1)) (
 gO x0 fun p5 =>
 ldI .i64 S1 p5.1 (p5.2 + 1) fun v6 =>
 gO x0 fun p7 =>
 S1.stn p7.1 (p7.2 + 1) [(.int .i64 (IntKind.wrap .i64 (v6 - 1)))] fun S8 =>
 callI .i64 call 40 [(.ptr x0), (.int .i64 x1)] S8 fun v10 S9 =>
 some (.tup [(.int .i64 v10), (.int .i64 0)], S9))))

theorem a20_entry (call : CallA) (n : Nat) (x0 : Option Pos) (x1 : Int) (S : AS) : evC E call n 20 (E.at 20 []) 0 (enumT 0 [(.ptr x0), (.int .i64 x1)]) S (retK E (E.fn 20)) = b20_entry call n  x0 x1 S := by kernel_rfl
def J20 (call : CallA) (n : Nat) (x0 : Option Pos) (x1 : Int) (S : AS) : Option (AV × AS) := b20_entry call n  x0 x1 S
theorem run20 (o : Orc) (n : Nat) (args : List AV) (S : AS) (ho : o 20 args = none) : evF E o (n + 1) (.fn 20) args S = evC E (evF E o n) n 20 (E.at 20 []) 0 (enumT 0 args) S (retK E (E.fn 20)) := by
  rw [evF, ho]; kernel_rfl
theorem J20_eq (call : CallA) (n : Nat) (x0 : Option Pos) (x1 : Int) (S : AS) : evC E call n 20 (E.at 20 []) 0 (enumT 0 [(.ptr x0), (.int .i64 x1)]) S (retK E (E.fn 20)) = J20 call n x0 x1 S := by
  rw [J20, a20_entry]
theorem F20 {o : Orc} (n : Nat) (x0 : Option Pos) (x1 : Int) (S : AS) (ho : ∀ args, o 20 args = none) : evF E o (n + 1) (.fn 20) [(.ptr x0), (.int .i64 x1)] S = J20 (evF E o n) n x0 x1 S := (run20 o n [(.ptr x0), (.int .i64 x1)] S (ho _)).trans (J20_eq _ _ x0 x1 S)
def b21_entry (call : CallA) (n : Nat)  (x0 : Option Pos) (x1 : Int) (S : AS) : Option (AV × AS) :=
 cond x0.isNone (
 some ((.int .i64 7), S)) (
 callB call 39 [(.ptr x0), (.int .i64 x1)] S fun v2 S1 =>
 cond (!v2) (
 some ((.int .i64 2), S1)) (
 gO x0 fun p3 =>
 ldL S1 p3.1 p3.2 fun v4a v4l v4c =>
 ixSl 1 v4a v4l x1 fun p5 =>
 ldI .u8 S1 p5.1 p5.2 fun v6 =>
 cond (v6 == 1) (
 callT call 42 [(.ptr x0), (.int .i64 x1), (.int .i64 3)] S1 fun v8 S7 =>
 gO x0 fun p9 =>
 ldL S7 p9.1 (p9.2 + 4) fun v10a v10l v10c =>
 newA S7 (.cells [(.int .i64 x1)]) fun b11 S12 =>
 appendA 1 8 S12 v10a v10l v10c 1 (firstA S12 1 1 (.sl (some (.rw b11, 0)) 1 (.ex 1))) fun v13a v13l v13c S14 =>
 gO x0 fun p15 =>
 S14.stn p15.1 (p15.2 + 4) [(.sl v13a v13l v13c)] fun S16 =>
 some ((.int .i64 0), S16)) (
 cond (v6 == 2) (
 callT call 42 [(.ptr x0), (.int .i64 x1), (.int .i64 0)] S1 fun v18 S17 =>
 gO x0 fun p19 =>
 ldL S17 p19.1 (p19.2 + 3) fun v20a v20l v20c =>
 callI .i64 call 44 [(.sl v20a v20l v20c), (.int .i64 x1)] S17 fun v22 S21 =>
 gO x0 fun p23 =>
 ldL S21 p23.1 (p23.2 + 3) fun v24a v24l v24c =>
 callL call 45 [(.sl v24a v24l v24c), (.int .i64 v22), (.int .i64 (IntKind.wrap .i64 (v22 + 1)))] S21 fun v26a v26l v26c S25 =>
 gO x0 fun p27 =>
 S25.stn p27.1 (p27.2 + 3) [(.sl v26a v26l v26c)] fun S28 =>
 some ((.int .i64 0), S28)) (
 some ((.int .i64 101), S1)))))

theorem a21_entry (call : CallA) (n : Nat) (x0 : Option Pos) (x1 : Int) (S : AS) : evC E call n 21 (E.at 21 []) 0 (enumT 0 [(.ptr x0), (.int .i64 x1)]) S (retK E (E.fn 21)) = b21_entry call n  x0 x1 S := by kernel_rfl
def J21 (call : CallA) (n : Nat) (x0 : Option Pos) (x1 : Int) (S : AS) : Option (AV × AS) := b21_entry call n  x0 x1 S
theorem run21 (o : Orc) (n : Nat) (args : List AV) (S : AS) (ho : o 21 args = none) : evF E o (n + 1) (.fn 21) args S = evC E (evF E o n) n 21 (E.at 21 []) 0 (enumT 0 args) S (retK E (E.fn 21)) := by
  rw [evF, ho]; kernel_rfl
theorem J21_eq (call : CallA) (n : Nat) (x0 : Option Pos) (x1 : Int) (S : AS) : evC E call n 21 (E.at 21 []) 0 (enumT 0 [(.ptr x0), (.int .i64 x1)]) S (retK E (E.fn 21)) = J21 call n x0 x1 S := by
  rw [J21, a21_entry]
theorem F21 {o : Orc} (n : Nat) (x0 : Option Pos) (x1 : Int) (S : AS) (ho : ∀ args, o 21 args = none) : evF E o (n + 1) (.fn 21) [(.ptr x0), (.int .i64 x1)] S = J21 (evF E o n) n x0 x1 S := (run21 o n [(.ptr x0), (.int .i64 x1)] S (ho _)).trans (J21_eq _ _ x0 x1 S)
def b22_entry (call : CallA) (n : Nat)  (x0 : Option Pos) (x1 : Int) (S : AS) : Option (AV × AS) :=
 cond x0.isNone (
 some ((.int .i64 7), S)) (
 cond (decide (x1 < 0)) (
 some ((.int .i64 2), S)) (
 gO x0 fun p1 =>
 ldI .i64 S p1.1 (p1.2 + 5) fun v2 =>
 gO x0 fun p3 =>
 ldI .i64 S p3.1 (p3.2 + 1) fun v4 =>
 cond (decide (x1 > (IntKind.wrap .i64 (v2 - v4)))) (
 some ((.int .i64 100), S)) (
 gO x0 fun p5 =>
 ldI .i64 S p5.1 (p5.2 + 1) fun v6 =>
 gO x0 fun p7 =>
 S.stn p7.1 (p7.2 + 1) [(.int .i64 (IntKind.wrap .i64 (v6 + x1)))] fun S8 =>
 some ((.int .i64 0), S8))))

theorem a22_entry (call : CallA) (n : Nat) (x0 : Option Pos) (x1 : Int) (S : AS) : evC E call n 22 (E.at 22 []) 0 (enumT 0 [(.ptr x0), (.int .i64 x1)]) S (retK E (E.fn 22)) = b22_entry call n  x0 x1 S := by kernel_rfl
def J22 (call : CallA) (n : Nat) (x0 : Option Pos) (x1 : Int) (S : AS) : Option (AV × AS) := b22_entry call n  x0 x1 S
theorem run22 (o : Orc) (n : Nat) (args : List AV) (S : AS) (ho : o 22 args = none) : evF E o (n + 1) (.fn 22) args S = evC E (evF E o n) n 22 (E.at 22 []) 0 (enumT 0 args) S (retK E (E.fn 22)) := by
  rw [evF, ho]; kernel_rfl
theorem J22_eq (call : CallA) (n : Nat) (x0 : Option Pos) (x1 : Int) (S : AS) : evC E call n 22 (E.at 22 []) 0 (enumT 0 [(.ptr x0), (.int .i64 x1)]) S (retK E (E.fn 22)) = J22 call n x0 x1 S := by
  rw [J22, a22_entry]
theorem F22 {o : Orc} (n : Nat) (x0 : Option Pos) (x1 : Int) (S : AS) (ho : ∀ args, o 22 args = none) : evF E o (n + 1) (.fn 22) [(.ptr x0), (.int .i64 x1)] S = J22 (evF E o n) n x0 x1 S := (run22 o n [(.ptr x0), (.int .i64 x1)] S (ho _)).trans (J22_eq _ _ x0 x1 S)
def b23_entry (call : CallA) (n : Nat)  (x0 : Option Pos) (S : AS) : Option (AV × AS) :=
 cond x0.isNone (
 some ((.int .i64 0), S)) (
 gO x0 fun p1 =>
 ldI .i64 S p1.1 (p1.2 + 1) fun v2 =>
 some ((.int .i64 v2), S))

theorem a23_entry (call : CallA) (n : Nat) (x0 : Option Pos) (S : AS) : evC E call n 23 (E.at 23 []) 0 (enumT 0 [(.ptr x0)]) S (retK E (E.fn 23)) = b23_entry call n  x0 S := by kernel_rfl
def J23 (call : CallA) (n : Nat) (x0 : Option Pos) (S : AS) : Option (AV × AS) := b23_entry call n  x0 S
theorem run23 (o : Orc) (n : Nat) (args : List AV) (S : AS) (ho : o 23 args = none) : evF E o (n + 1) (.fn 23) args S = evC E (evF E o n) n 23 (E.at 23 []) 0 (enumT 0 args) S (retK E (E.fn 23)) := by
  rw [evF, ho]; kernel_rfl
theorem J23_eq (call : CallA) (n : Nat) (x0 : Option Pos) (S : AS) : evC E call n 23 (E.at 23 []) 0 (enumT 0 [(.ptr x0)]) S (retK E (E.fn 23)) = J23 call n x0 S := by
  rw [J23, a23_entry]
theorem F23 {o : Orc} (n : Nat) (x0 : Option Pos) (S : AS) (ho : ∀ args, o 23 args = none) : evF E o (n + 1) (.fn 23) [(.ptr x0)] S = J23 (evF E o n) n x0 S := (run23 o n [(.ptr x0)] S (ho _)).trans (J23_eq _ _ x0 S)
def b24_l1_1_1_1_0_1_0 (call : CallA) (n : Nat) (j1_1_1_1_0_1_0_0_1_1_1 : Int → Option Pos → Nat → Cap → Option Pos → Int → Int → AS → Option (AV × AS)) (j1_1_1_1_1 : Option Pos → AS → Option (AV × AS)) (w0 : Int) (w1a : Option Pos) (w1l : Nat) (w1c : Cap) (w4 : AV) (w5 : AV) (w6 : Option Pos) (w25 : Int) (w26 : Int) (S : AS) : Option (AV × AS) :=
 cond (decide (w26 < w25)) (
 ixSl 1 w1a w1l (IntKind.wrap .i64 (Int.tdiv w26 8)) fun p5 =>
 ldI .u8 S p5.1 p5.2 fun v6 =>
 nneg (Int.tmod w26 8) <|
 cond ((andI .u8 (shrI .u8 v6 (Int.tmod w26 8)) 1) == 0) (
 j1_1_1_1_0_1_0_0_1_1_1 w0 w1a w1l w1c w6 w25 w26 S) (
 cond (decide (w26 ≥ w0)) (
 some (.tup [(.ptr none), (.int .i64 102)], S)) (
 callT call 42 [(.ptr w6), (.int .i64 w26), (.int .i64 1)] S fun v8 S7 =>
 j1_1_1_1_0_1_0_0_1_1_1 w0 w1a w1l w1c w6 w25 w26 S7))) (
 j1_1_1_1_1 w6 S)

def b24_j1_1_1_1_0_1_0_0_1_1_1 (call : CallA) (n : Nat) (l1_1_1_1_0_1_0 : Int → Option Pos → Nat → Cap → AV → AV → Option Pos → Int → Int → AS → Option (AV × AS)) (w0 : Int) (w1a : Option Pos) (w1l : Nat) (w1c : Cap) (w6 : Option Pos) (w25 : Int) (w26 : Int) (S : AS) : Option (AV × AS) :=
 l1_1_1_1_0_1_0 w0 w1a w1l w1c .undef .undef w6 w25 (IntKind.wrap .i64 (w26 + 1)) S

def b24_j1_1_1_1_1 (call : CallA) (n : Nat)  (w6 : Option Pos) (S : AS) : Option (AV × AS) :=
 some (.tup [(.ptr w6), (.int .i64 0)], S)

def b24_entry (call : CallA) (n : Nat) (l1_1_1_1_0_1_0 : Int → Option Pos → Nat → Cap → AV → AV → Option Pos → Int → Int → AS → Option (AV × AS)) (x0 : Int) (x1a : Option Pos) (x1l : Nat) (x1c : Cap) (S : AS) : Option (AV × AS) :=
 callT call 10 [(.int .i64 x0)] S fun v2 S1 =>
 atP v2 0 fun v3 =>
 atI .i64 v2 1 fun v4 =>
 cond (v4 != 0) (
 some (.tup [(.ptr none), (.int .i64 v4)], S1)) (
 cond (((x1l : Nat) : Int) != (IntKind.wrap .i64 (Int.tdiv (IntKind.wrap .i64 (x0 + 7)) 8))) (
 some (.tup [(.ptr none), (.int .i64 102)], S1)) (
 l1_1_1_1_0_1_0 x0 x1a x1l x1c (.ptr none) (.int .i64 0) v3 (IntKind.wrap .i64 (8 * ((x1l : Nat) : Int))) 0 S1))

def r24_l1_1_1_1_0_1_0 (call : CallA) (n : Nat)  (m : Nat) (w0 : Int) (w1a : Option Pos) (w1l : Nat) (w1c : Cap) (w4 : AV) (w5 : AV) (w6 : Option Pos) (w25 : Int) (w26 : Int) (S : AS) : Option (AV × AS) := loopN (evC E call n 24 (E.at 24 [1, 1, 1, 1, 0, 1, 0, 0]) 0) [0, 1, 4, 5, 6, 25, 26] m [(0, (.int .i64 w0)), (1, (.sl w1a w1l w1c)), (4, w4), (5, w5), (6, (.ptr w6)), (25, (.int .i64 w25)), (26, (.int .i64 w26))] S (kBlk 0 (kSeq E call n 24 (E.at 24 [1, 1, 1, 1, 1]) 0 (retK E (E.fn 24))))
def r24_j1_1_1_1_0_1_0_0_1_1_1 (call : CallA) (n : Nat) (m1_1_1_1_0_1_0 : Nat) (w0 : Int) (w1a : Option Pos) (w1l : Nat) (w1c : Cap) (w6 : Option Pos) (w25 : Int) (w26 : Int) (S : AS) : Option (AV × AS) := evC E call n 24 (E.at 24 [1, 1, 1, 1, 0, 1, 0, 0, 1, 1, 1]) 0 [(0, (.int .i64 w0)), (1, (.sl w1a w1l w1c)), (6, (.ptr w6)), (25, (.int .i64 w25)), (26, (.int .i64 w26))] S (kLp (evC E call n 24 (E.at 24 [1, 1, 1, 1, 0, 1, 0, 0]) 0) [0, 1, 4, 5, 6, 25, 26] m1_1_1_1_0_1_0 (kBlk 0 (kSeq E call n 24 (E.at 24 [1, 1, 1, 1, 1]) 0 (retK E (E.fn 24)))))
def r24_j1_1_1_1_1 (call : CallA) (n : Nat)  (w6 : Option Pos) (S : AS) : Option (AV × AS) := evC E call n 24 (E.at 24 [1, 1, 1, 1, 1]) 0 [(6, (.ptr w6))] S (retK E (E.fn 24))
theorem a24_l1_1_1_1_0_1_0 (call : CallA) (n : Nat)  (m : Nat) (w0 : Int) (w1a : Option Pos) (w1l : Nat) (w1c : Cap) (w4 : AV) (w5 : AV) (w6 : Option Pos) (w25 : Int) (w26 : Int) (S : AS) : r24_l1_1_1_1_0_1_0 call n  (m + 1) w0 w1a w1l w1c w4 w5 w6 w25 w26 S = b24_l1_1_1_1_0_1_0 call n (r24_j1_1_1_1_0_1_0_0_1_1_1 call n m) (r24_j1_1_1_1_1 call n ) w0 w1a w1l w1c w4 w5 w6 w25 w26 S := by kernel_rfl
theorem a24_j1_1_1_1_0_1_0_0_1_1_1 (call : CallA) (n : Nat) (m1_1_1_1_0_1_0 : Nat) (w0 : Int) (w1a : Option Pos) (w1l : Nat) (w1c : Cap) (w6 : Option Pos) (w25 : Int) (w26 : Int) (S : AS) : r24_j1_1_1_1_0_1_0_0_1_1_1 call n m1_1_1_1_0_1_0 w0 w1a w1l w1c w6 w25 w26 S = b24_j1_1_1_1_0_1_0_0_1_1_1 call n (r24_l1_1_1_1_0_1_0 call n  m1_1_1_1_0_1_0) w0 w1a w1l w1c w6 w25 w26 S := by kernel_rfl
theorem a24_j1_1_1_1_1 (call : CallA) (n : Nat)  (w6 : Option Pos) (S : AS) : r24_j1_1_1_1_1 call n  w6 S = b24_j1_1_1_1_1 call n  w6 S := by kernel_rfl
theorem a24_entry (call : CallA) (n : Nat) (x0 : Int) (x1a : Option Pos) (x1l : Nat) (x1c : Cap) (S : AS) : evC E call n 24 (E.at 24 []) 0 (enumT 0 [(.int .i64 x0), (.sl x1a x1l x1c)]) S (retK E (E.fn 24)) = b24_entry call n (r24_l1_1_1_1_0_1_0 call n  n) x0 x1a x1l x1c S := by kernel_rfl
def J24_j1_1_1_1_0_1_0_0_1_1_1 (call : CallA) (n : Nat) (n1_1_1_1_0_1_0 : Int → Option Pos → Nat → Cap → AV → AV → Option Pos → Int → Int → AS → Option (AV × AS)) (w0 : Int) (w1a : Option Pos) (w1l : Nat) (w1c : Cap) (w6 : Option Pos) (w25 : Int) (w26 : Int) (S : AS) : Option (AV × AS) := b24_j1_1_1_1_0_1_0_0_1_1_1 call n n1_1_1_1_0_1_0 w0 w1a w1l w1c w6 w25 w26 S
theorem h24_j1_1_1_1_0_1_0_0_1_1_1 (call : CallA) (n : Nat) (m1_1_1_1_0_1_0 : Nat) : r24_j1_1_1_1_0_1_0_0_1_1_1 call n m1_1_1_1_0_1_0 = J24_j1_1_1_1_0_1_0_0_1_1_1 call n (r24_l1_1_1_1_0_1_0 call n  m1_1_1_1_0_1_0) := by
  funext w0 w1a w1l w1c w6 w25 w26 S
  rw [J24_j1_1_1_1_0_1_0_0_1_1_1, a24_j1_1_1_1_0_1_0_0_1_1_1]
def J24_j1_1_1_1_1 (call : CallA) (n : Nat)  (w6 : Option Pos) (S : AS) : Option (AV × AS) := b24_j1_1_1_1_1 call n  w6 S
theorem h24_j1_1_1_1_1 (call : CallA) (n : Nat)  : r24_j1_1_1_1_1 call n  = J24_j1_1_1_1_1 call n  := by
  funext w6 S
  rw [J24_j1_1_1_1_1, a24_j1_1_1_1_1]
def J24_l1_1_1_1_0_1_0 (call : CallA) (n : Nat)  (m : Nat) : Int → Option Pos → Nat → Cap → AV → AV → Option Pos → Int → Int → AS → Option (AV × AS) := Nat.rec (motive := fun _ => Int → Option Pos → Nat → Cap → AV → AV → Option Pos → Int → Int → AS → Option (AV × AS)) (fun _ _ _ _ _ _ _ _ _ _ => none) (fun _ ih w0 w1a w1l w1c w4 w5 w6 w25 w26 S => b24_l1_1_1_1_0_1_0 call n (J24_j1_1_1_1_0_1_0_0_1_1_1 call n ih) (J24_j1_1_1_1_1 call n ) w0 w1a w1l w1c w4 w5 w6 w25 w26 S) m
theorem J24_l1_1_1_1_0_1_0_succ (call : CallA) (n : Nat)  (m : Nat) (w0 : Int) (w1a : Option Pos) (w1l : Nat) (w1c : Cap) (w4 : AV) (w5 : AV) (w6 : Option Pos) (w25 : Int) (w26 : Int) (S : AS) : J24_l1_1_1_1_0_1_0 call n  (m + 1) w0 w1a w1l w1c w4 w5 w6 w25 w26 S = b24_l1_1_1_1_0_1_0 call n (J24_j1_1_1_1_0_1_0_0_1_1_1 call n (J24_l1_1_1_1_0_1_0 call n  m)) (J24_j1_1_1_1_1 call n ) w0 w1a w1l w1c w4 w5 w6 w25 w26 S := rfl
theorem h24_l1_1_1_1_0_1_0 (call : CallA) (n : Nat)  (m : Nat) : r24_l1_1_1_1_0_1_0 call n  m = J24_l1_1_1_1_0_1_0 call n  m := by
  induction m with
  | zero => rfl
  | succ m ih =>
    funext w0 w1a w1l w1c w4 w5 w6 w25 w26 S
    rw [J24_l1_1_1_1_0_1_0_succ, a24_l1_1_1_1_0_1_0, h24_j1_1_1_1_0_1_0_0_1_1_1 call n m, h24_j1_1_1_1_1 call n , ih]
def J24 (call : CallA) (n : Nat) (x0 : Int) (x1a : Option Pos) (x1l : Nat) (x1c : Cap) (S : AS) : Option (AV × AS) := b24_entry call n (J24_l1_1_1_1_0_1_0 call n  n) x0 x1a x1l x1c S
theorem run24 (o : Orc) (n : Nat) (args : List AV) (S : AS) (ho : o 24 args = none) : evF E o (n + 1) (.fn 24) args S = evC E (evF E o n) n 24 (E.at 24 []) 0 (enumT 0 args) S (retK E (E.fn 24)) := by
  rw [evF, ho]; kernel_rfl
theorem J24_eq (call : CallA) (n : Nat) (x0 : Int) (x1a : Option Pos) (x1l : Nat) (x1c : Cap) (S : AS) : evC E call n 24 (E.at 24 []) 0 (enumT 0 [(.int .i64 x0), (.sl x1a x1l x1c)]) S (retK E (E.fn 24)) = J24 call n x0 x1a x1l x1c S := by
  rw [J24, a24_entry, h24_l1_1_1_1_0_1_0 call n  n]
theorem F24 {o : Orc} (n : Nat) (x0 : Int) (x1a : Option Pos) (x1l : Nat) (x1c : Cap) (S : AS) (ho : ∀ args, o 24 args = none) : evF E o (n + 1) (.fn 24) [(.int .i64 x0), (.sl x1a x1l x1c)] S = J24 (evF E o n) n x0 x1a x1l x1c S := (run24 o n [(.int .i64 x0), (.sl x1a x1l x1c)] S (ho _)).trans (J24_eq _ _ x0 x1a x1l x1c S)
def b25_l1_0_1_0 (call : CallA) (n : Nat) (l1_0_1_0 : Option Pos → Option Pos → Nat → Cap → Int → Int → AS → Option (AV × AS)) (j1_1 : Option Pos → AS → Option (AV × AS)) (w0 : Option Pos) (w11a : Option Pos) (w11l : Nat) (w11c : Cap) (w12 : Int) (w13 : Int) (S : AS) : Option (AV × AS) :=
 cond (decide (w13 < w12)) (
 ixSl 1 w11a w11l w13 fun p3 =>
 ldI .i64 S p3.1 p3.2 fun v4 =>
 callT call 42 [(.ptr w0), (.int .i64 v4), (.int .i64 0)] S fun v6 S5 =>
 l1_0_1_0 w0 w11a w11l w11c w12 (IntKind.wrap .i64 (w13 + 1)) S5) (
 j1_1 w0 S)

def b25_j1_1 (call : CallA) (n : Nat) (l1_1_0_1_0 : Option Pos → Option Pos → Nat → Cap → Int → Int → AS → Option (AV × AS)) (w0 : Option Pos) (S : AS) : Option (AV × AS) :=
 gO w0 fun p7 =>
 ldL S p7.1 (p7.2 + 4) fun v8a v8l v8c =>
 l1_1_0_1_0 w0 v8a v8l v8c ((v8l : Nat) : Int) 0 S

def b25_l1_1_0_1_0 (call : CallA) (n : Nat) (l1_1_0_1_0 : Option Pos → Option Pos → Nat → Cap → Int → Int → AS → Option (AV × AS)) (j1_1_1 : Option Pos → AS → Option (AV × AS)) (w0 : Option Pos) (w24a : Option Pos) (w24l : Nat) (w24c : Cap) (w25 : Int) (w26 : Int) (S : AS) : Option (AV × AS) :=
 cond (decide (w26 < w25)) (
 ixSl 1 w24a w24l w26 fun p9 =>
 ldI .i64 S p9.1 p9.2 fun v10 =>
 callT call 42 [(.ptr w0), (.int .i64 v10), (.int .i64 1)] S fun v12 S11 =>
 l1_1_0_1_0 w0 w24a w24l w24c w25 (IntKind.wrap .i64 (w26 + 1)) S11) (
 j1_1_1 w0 S)

def b25_j1_1_1 (call : CallA) (n : Nat)  (w0 : Option Pos) (S : AS) : Option (AV × AS) :=
 gO w0 fun p13 =>
 S.stn p13.1 (p13.2 + 3) [(.sl none 0 (.ex 0))] fun S14 =>
 gO w0 fun p15 =>
 S14.stn p15.1 (p15.2 + 4) [(.sl none 0 (.ex 0))] fun S16 =>
 some (.tup [], S16)

def b25_entry (call : CallA) (n : Nat) (l1_0_1_0 : Option Pos → Option Pos → Nat → Cap → Int → Int → AS → Option (AV × AS)) (x0 : Option Pos) (S : AS) : Option (AV × AS) :=
 cond x0.isNone (
 some (.tup [], S)) (
 gO x0 fun p1 =>
 ldL S p1.1 (p1.2 + 3) fun v2a v2l v2c =>
 l1_0_1_0 x0 v2a v2l v2c ((v2l : Nat) : Int) 0 S)

def r25_l1_0_1_0 (call : CallA) (n : Nat)  (m : Nat) (w0 : Option Pos) (w11a : Option Pos) (w11l : Nat) (w11c : Cap) (w12 : Int) (w13 : Int) (S : AS) : Option (AV × AS) := loopN (evC E call n 25 (E.at 25 [1, 0, 1, 0, 0]) 0) [0, 11, 12, 13] m [(0, (.ptr w0)), (11, (.sl w11a w11l w11c)), (12, (.int .i64 w12)), (13, (.int .i64 w13))] S (kBlk 0 (kSeq E call n 25 (E.at 25 [1, 1]) 0 (retK E (E.fn 25))))
def r25_j1_1 (call : CallA) (n : Nat)  (w0 : Option Pos) (S : AS) : Option (AV × AS) := evC E call n 25 (E.at 25 [1, 1]) 0 [(0, (.ptr w0))] S (retK E (E.fn 25))
def r25_l1_1_0_1_0 (call : CallA) (n : Nat)  (m : Nat) (w0 : Option Pos) (w24a : Option Pos) (w24l : Nat) (w24c : Cap) (w25 : Int) (w26 : Int) (S : AS) : Option (AV × AS) := loopN (evC E call n 25 (E.at 25 [1, 1, 0, 1, 0, 0]) 2) [0, 24, 25, 26] m [(0, (.ptr w0)), (24, (.sl w24a w24l w24c)), (25, (.int .i64 w25)), (26, (.int .i64 w26))] S (kBlk 2 (kSeq E call n 25 (E.at 25 [1, 1, 1]) 0 (retK E (E.fn 25))))
def r25_j1_1_1 (call : CallA) (n : Nat)  (w0 : Option Pos) (S : AS) : Option (AV × AS) := evC E call n 25 (E.at 25 [1, 1, 1]) 0 [(0, (.ptr w0))] S (retK E (E.fn 25))
theorem a25_l1_0_1_0 (call : CallA) (n : Nat)  (m : Nat) (w0 : Option Pos) (w11a : Option Pos) (w11l : Nat) (w11c : Cap) (w12 : Int) (w13 : Int) (S : AS) : r25_l1_0_1_0 call n  (m + 1) w0 w11a w11l w11c w12 w13 S = b25_l1_0_1_0 call n (r25_l1_0_1_0 call n  m) (r25_j1_1 call n ) w0 w11a w11l w11c w12 w13 S := by kernel_rfl
theorem a25_j1_1 (call : CallA) (n : Nat)  (w0 : Option Pos) (S : AS) : r25_j1_1 call n  w0 S = b25_j1_1 call n (r25_l1_1_0_1_0 call n  n) w0 S := by kernel_rfl
theorem a25_l1_1_0_1_0 (call : CallA) (n : Nat)  (m : Nat) (w0 : Option Pos) (w24a : Option Pos) (w24l : Nat) (w24c : Cap) (w25 : Int) (w26 : Int) (S : AS) : r25_l1_1_0_1_0 call n  (m + 1) w0 w24a w24l w24c w25 w26 S = b25_l1_1_0_1_0 call n (r25_l1_1_0_1_0 call n  m) (r25_j1_1_1 call n ) w0 w24a w24l w24c w25 w26 S := by kernel_rfl
theorem a25_j1_1_1 (call : CallA) (n : Nat)  (w0 : Option Pos) (S : AS) : r25_j1_1_1 call n  w0 S = b25_j1_1_1 call n  w0 S := by kernel_rfl
theorem a25_entry (call : CallA) (n : Nat) (x0 : Option Pos) (S : AS) : evC E call n 25 (E.at 25 []) 0 (enumT 0 [(.ptr x0)]) S (retK E (E.fn 25)) = b25_entry call n (r25_l1_0_1_0 call n  n) x0 S := by kernel_rfl
def J25_j1_1_1 (call : CallA) (n : Nat)  (w0 : Option Pos) (S : AS) : Option (AV × AS) := b25_j1_1_1 call n  w0 S
theorem h25_j1_1_1 (call : CallA) (n : Nat)  : r25_j1_1_1 call n  = J25_j1_1_1 call n  := by
  funext w0 S
  rw [J25_j1_1_1, a25_j1_1_1]
def J25_l1_1_0_1_0 (call : CallA) (n : Nat)  (m : Nat) : Option Pos → Option Pos → Nat → Cap → Int → Int → AS → Option (AV × AS) := Nat.rec (motive := fun _ => Option Pos → Option Pos → Nat → Cap → Int → Int → AS → Option (AV × AS)) (fun _ _ _ _ _ _ _ => none) (fun _ ih w0 w24a w24l w24c w25 w26 S => b25_l1_1_0_1_0 call n ih (J25_j1_1_1 call n ) w0 w24a w24l w24c w25 w26 S) m
theorem J25_l1_1_0_1_0_succ (call : CallA) (n : Nat)  (m : Nat) (w0 : Option Pos) (w24a : Option Pos) (w24l : Nat) (w24c : Cap) (w25 : Int) (w26 : Int) (S : AS) : J25_l1_1_0_1_0 call n  (m + 1) w0 w24a w24l w24c w25 w26 S = b25_l1_1_0_1_0 call n (J25_l1_1_0_1_0 call n  m) (J25_j1_1_1 call n ) w0 w24a w24l w24c w25 w26 S := rfl
theorem h25_l1_1_0_1_0 (call : CallA) (n : Nat)  (m : Nat) : r25_l1_1_0_1_0 call n  m = J25_l1_1_0_1_0 call n  m := by
  induction m with
  | zero => rfl
  | succ m ih =>
    funext w0 w24a w24l w24c w25 w26 S
    rw [J25_l1_1_0_1_0_succ, a25_l1_1_0_1_0, h25_j1_1_1 call n , ih]
def J25_j1_1 (call : CallA) (n : Nat)  (w0 : Option Pos) (S : AS) : Option (AV × AS) := b25_j1_1 call n (J25_l1_1_0_1_0 call n  n) w0 S
theorem h25_j1_1 (call : CallA) (n : Nat)  : r25_j1_1 call n  = J25_j1_1 call n  := by
  funext w0 S
  rw [J25_j1_1, a25_j1_1, h25_l1_1_0_1_0 call n  n]
def J25_l1_0_1_0 (call : CallA) (n : Nat)  (m : Nat) : Option Pos → Option Pos → Nat → Cap → Int → Int → AS → Option (AV × AS) := Nat.rec (motive := fun _ => Option Pos → Option Pos → Nat → Cap → Int → Int → AS → Option (AV × AS)) (fun _ _ _ _ _ _ _ => none) (fun _ ih w0 w11a w11l w11c w12 w13 S => b25_l1_0_1_0 call n ih (J25_j1_1 call n ) w0 w11a w11l w11c w12 w13 S) m
theorem J25_l1_0_1_0_succ (call : CallA) (n : Nat)  (m : Nat) (w0 : Option Pos) (w11a : Option Pos) (w11l : Nat) (w11c : Cap) (w12 : Int) (w13 : Int) (S : AS) : J25_l1_0_1_0 call n  (m + 1) w0 w11a w11l w11c w12 w13 S = b25_l1_0_1_0 call n (J25_l1_0_1_0 call n  m) (J25_j1_1 call n ) w0 w11a w11l w11c w12 w13 S := rfl
theorem h25_l1_0_1_0 (call : CallA) (n : Nat)  (m : Nat) : r25_l1_0_1_0 call n  m = J25_l1_0_1_0 call n  m := by
  induction m with
  | zero => rfl
  | succ m ih =>
    funext w0 w11a w11l w11c w12 w13 S
    rw [J25_l1_0_1_0_succ, a25_l1_0_1_0, h25_j1_1 call n , ih]
def J25 (call : CallA) (n : Nat) (x0 : Option Pos) (S : AS) : Option (AV × AS) := b25_entry call n (J25_l1_0_1_0 call n  n) x0 S
theorem run25 (o : Orc) (n : Nat) (args : List AV) (S : AS) (ho : o 25 args = none) : evF E o (n + 1) (.fn 25) args S = evC E (evF E o n) n 25 (E.at 25 []) 0 (enumT 0 args) S (retK E (E.fn 25)) := by
  rw [evF, ho]; kernel_rfl
theorem J25_eq (call : CallA) (n : Nat) (x0 : Option Pos) (S : AS) : evC E call n 25 (E.at 25 []) 0 (enumT 0 [(.ptr x0)]) S (retK E (E.fn 25)) = J25 call n x0 S := by
  rw [J25, a25_entry, h25_l1_0_1_0 call n  n]
theorem F25 {o : Orc} (n : Nat) (x0 : Option Pos) (S : AS) (ho : ∀ args, o 25 args = none) : evF E o (n + 1) (.fn 25) [(.ptr x0)] S = J25 (evF E o n) n x0 S := (run25 o n [(.ptr x0)] S (ho _)).trans (J25_eq _ _ x0 S)
def b26_entry (call : CallA) (n : Nat)  (x0 : Option Pos) (S : AS) : Option (AV × AS) :=
 cond x0.isNone (
 some ((.sl none 0 (.ex 0)), S)) (
 gO x0 fun p1 =>
 ldL S p1.1 (p1.2 + 3) fun v2a v2l v2c =>
 callL call 46 [(.sl v2a v2l v2c)] S fun v4a v4l v4c S3 =>
 some ((.sl v4a v4l v4c), S3))

theorem a26_entry (call : CallA) (n : Nat) (x0 : Option Pos) (S : AS) : evC E call n 26 (E.at 26 []) 0 (enumT 0 [(.ptr x0)]) S (retK E (E.fn 26)) = b26_entry call n  x0 S := by kernel_rfl
def J26 (call : CallA) (n : Nat) (x0 : Option Pos) (S : AS) : Option (AV × AS) := b26_entry call n  x0 S
theorem run26 (o : Orc) (n : Nat) (args : List AV) (S : AS) (ho : o 26 args = none) : evF E o (n + 1) (.fn 26) args S = evC E (evF E o n) n 26 (E.at 26 []) 0 (enumT 0 args) S (retK E (E.fn 26)) := by
  rw [evF, ho]; kernel_rfl
theorem J26_eq (call : CallA) (n : Nat) (x0 : Option Pos) (S : AS) : evC E call n 26 (E.at 26 []) 0 (enumT 0 [(.ptr x0)]) S (retK E (E.fn 26)) = J26 call n x0 S := by
  rw [J26, a26_entry]
theorem F26 {o : Orc} (n : Nat) (x0 : Option Pos) (S : AS) (ho : ∀ args, o 26 args = none) : evF E o (n + 1) (.fn 26) [(.ptr x0)] S = J26 (evF E o n) n x0 S := (run26 o n [(.ptr x0)] S (ho _)).trans (J26_eq _ _ x0 S)
def b27_entry (call : CallA) (n : Nat)  (x0 : Option Pos) (S : AS) : Option (AV × AS) :=
 cond x0.isNone (
 some ((.sl none 0 (.ex 0)), S)) (
 gO x0 fun p1 =>
 ldL S p1.1 (p1.2 + 4) fun v2a v2l v2c =>
 callL call 46 [(.sl v2a v2l v2c)] S fun v4a v4l v4c S3 =>
 some ((.sl v4a v4l v4c), S3))

theorem a27_entry (call : CallA) (n : Nat) (x0 : Option Pos) (S : AS) : evC E call n 27 (E.at 27 []) 0 (enumT 0 [(.ptr x0)]) S (retK E (E.fn 27)) = b27_entry call n  x0 S := by kernel_rfl
def J27 (call : CallA) (n : Nat) (x0 : Option Pos) (S : AS) : Option (AV × AS) := b27_entry call n  x0 S
theorem run27 (o : Orc) (n : Nat) (args : List AV) (S : AS) (ho : o 27 args = none) : evF E o (n + 1) (.fn 27) args S = evC E (evF E o n) n 27 (E.at 27 []) 0 (enumT 0 args) S (retK E (E.fn 27)) := by
  rw [evF, ho]; kernel_rfl
theorem J27_eq (call : CallA) (n : Nat) (x0 : Option Pos) (S : AS) : evC E call n 27 (E.at 27 []) 0 (enumT 0 [(.ptr x0)]) S (retK E (E.fn 27)) = J27 call n x0 S := by
  rw [J27, a27_entry]
theorem F27 {o : Orc} (n : Nat) (x0 : Option Pos) (S : AS) (ho : ∀ args, o 27 args = none) : evF E o (n + 1) (.fn 27) [(.ptr x0)] S = J27 (evF E o n) n x0 S := (run27 o n [(.ptr x0)] S (ho _)).trans (J27_eq _ _ x0 S)
def b28_l1_1_0_1_0 (call : CallA) (n : Nat) (j1_1_0_1_0_0_1_1_1 : Option Pos → Option Pos → Nat → Cap → Option Pos → Nat → Cap → Int → Int → AS → Option (AV × AS)) (w0 : Option Pos) (w2a : Option Pos) (w2l : Nat) (w2c : Cap) (w10a : Option Pos) (w10l : Nat) (w10c : Cap) (w11 : Int) (w12 : Int) (S : AS) : Option (AV × AS) :=
 cond (decide (w12 < w11)) (
 ixSl 1 w10a w10l w12 fun p3 =>
 ldI .u8 S p3.1 p3.2 fun v4 =>
 cond (v4 != 0) (
 j1_1_0_1_0_0_1_1_1 w0 w2a w2l w2c w10a w10l w10c w11 w12 S) (
 cond (decide (w12 > 0)) (
 gO w0 fun p5 =>
 ldL S p5.1 p5.2 fun v6a v6l v6c =>
 ixSl 1 v6a v6l (IntKind.wrap .i64 (w12 - 1)) fun p7 =>
 ldI .u8 S p7.1 p7.2 fun v8 =>
 cond (v8 == 0) (
 ixSl 2 w2a w2l (IntKind.wrap .i64 (((w2l : Nat) : Int) - 1)) fun p9 =>
 ixArr 1 p9 2 1 fun p10 =>
 ldI .i64 S p10.1 p10.2 fun v11 =>
 ixSl 2 w2a w2l (IntKind.wrap .i64 (((w2l : Nat) : Int) - 1)) fun p12 =>
 ixArr 1 p12 2 1 fun p13 =>
 S.stn p13.1 p13.2 [(.int .i64 (IntKind.wrap .i64 (v11 + 1)))] fun S14 =>
 j1_1_0_1_0_0_1_1_1 w0 w2a w2l w2c w10a w10l w10c w11 w12 S14) (
 newA S (.cells [(.int .i64 w12), (.int .i64 1)]) fun b15 S16 =>
 appendA 2 16 S16 w2a w2l w2c 1 (firstA S16 2 1 (.sl (some (.rw b15, 0)) 1 (.ex 1))) fun v17a v17l v17c S18 =>
 j1_1_0_1_0_0_1_1_1 w0 v17a v17l v17c w10a w10l w10c w11 w12 S18)) (
 newA S (.cells [(.int .i64 w12), (.int .i64 1)]) fun b19 S20 =>
 appendA 2 16 S20 w2a w2l w2c 1 (firstA S20 2 1 (.sl (some (.rw b19, 0)) 1 (.ex 1))) fun v21a v21l v21c S22 =>
 j1_1_0_1_0_0_1_1_1 w0 v21a v21l v21c w10a w10l w10c w11 w12 S22))) (
 some ((.sl w2a w2l w2c), S))

def b28_j1_1_0_1_0_0_1_1_1 (call : CallA) (n : Nat) (l1_1_0_1_0 : Option Pos → Option Pos → Nat → Cap → Option Pos → Nat → Cap → Int → Int → AS → Option (AV × AS)) (w0 : Option Pos) (w2a : Option Pos) (w2l : Nat) (w2c : Cap) (w10a : Option Pos) (w10l : Nat) (w10c : Cap) (w11 : Int) (w12 : Int) (S : AS) : Option (AV × AS) :=
 l1_1_0_1_0 w0 w2a w2l w2c w10a w10l w10c w11 (IntKind.wrap .i64 (w12 + 1)) S

def b28_entry (call : CallA) (n : Nat) (l1_1_0_1_0 : Option Pos → Option Pos → Nat → Cap → Option Pos → Nat → Cap → Int → Int → AS → Option (AV × AS)) (x0 : Option Pos) (S : AS) : Option (AV × AS) :=
 cond x0.isNone (
 some ((.sl none 0 (.ex 0)), S)) (
 gO x0 fun p1 =>
 ldL S p1.1 p1.2 fun v2a v2l v2c =>
 l1_1_0_1_0 x0 none 0 (.ex 0) v2a v2l v2c ((v2l : Nat) : Int) 0 S)

def r28_l1_1_0_1_0 (call : CallA) (n : Nat)  (m : Nat) (w0 : Option Pos) (w2a : Option Pos) (w2l : Nat) (w2c : Cap) (w10a : Option Pos) (w10l : Nat) (w10c : Cap) (w11 : Int) (w12 : Int) (S : AS) : Option (AV × AS) := loopN (evC E call n 28 (E.at 28 [1, 1, 0, 1, 0, 0]) 0) [0, 2, 10, 11, 12] m [(0, (.ptr w0)), (2, (.sl w2a w2l w2c)), (10, (.sl w10a w10l w10c)), (11, (.int .i64 w11)), (12, (.int .i64 w12))] S (kBlk 0 (kSeq E call n 28 (E.at 28 [1, 1, 1]) 0 (retK E (E.fn 28))))
def r28_j1_1_0_1_0_0_1_1_1 (call : CallA) (n : Nat) (m1_1_0_1_0 : Nat) (w0 : Option Pos) (w2a : Option Pos) (w2l : Nat) (w2c : Cap) (w10a : Option Pos) (w10l : Nat) (w10c : Cap) (w11 : Int) (w12 : Int) (S : AS) : Option (AV × AS) := evC E call n 28 (E.at 28 [1, 1, 0, 1, 0, 0, 1, 1, 1]) 0 [(0, (.ptr w0)), (2, (.sl w2a w2l w2c)), (10, (.sl w10a w10l w10c)), (11, (.int .i64 w11)), (12, (.int .i64 w12))] S (kLp (evC E call n 28 (E.at 28 [1, 1, 0, 1, 0, 0]) 0) [0, 2, 10, 11, 12] m1_1_0_1_0 (kBlk 0 (kSeq E call n 28 (E.at 28 [1, 1, 1]) 0 (retK E (E.fn 28)))))
theorem a28_l1_1_0_1_0 (call : CallA) (n : Nat)  (m : Nat) (w0 : Option Pos) (w2a : Option Pos) (w2l : Nat) (w2c : Cap) (w10a : Option Pos) (w10l : Nat) (w10c : Cap) (w11 : Int) (w12 : Int) (S : AS) : r28_l1_1_0_1_0 call n  (m + 1) w0 w2a w2l w2c w10a w10l w10c w11 w12 S = b28_l1_1_0_1_0 call n (r28_j1_1_0_1_0_0_1_1_1 call n m) w0 w2a w2l w2c w10a w10l w10c w11 w12 S := by kernel_rfl
theorem a28_j1_1_0_1_0_0_1_1_1 (call : CallA) (n : Nat) (m1_1_0_1_0 : Nat) (w0 : Option Pos) (w2a : Option Pos) (w2l : Nat) (w2c : Cap) (w10a : Option Pos) (w10l : Nat) (w10c : Cap) (w11 : Int) (w12 : Int) (S : AS) : r28_j1_1_0_1_0_0_1_1_1 call n m1_1_0_1_0 w0 w2a w2l w2c w10a w10l w10c w11 w12 S = b28_j1_1_0_1_0_0_1_1_1 call n (r28_l1_1_0_1_0 call n  m1_1_0_1_0) w0 w2a w2l w2c w10a w10l w10c w11 w12 S := by kernel_rfl
theorem a28_entry (call : CallA) (n : Nat) (x0 : Option Pos) (S : AS) : evC E call n 28 (E.at 28 []) 0 (enumT 0 [(.ptr x0)]) S (retK E (E.fn 28)) = b28_entry call n (r28_l1_1_0_1_0 call n  n) x0 S := by kernel_rfl
def J28_j1_1_0_1_0_0_1_1_1 (call : CallA) (n : Nat) (n1_1_0_1_0 : Option Pos → Option Pos → Nat → Cap → Option Pos → Nat → Cap → Int → Int → AS → Option (AV × AS)) (w0 : Option Pos) (w2a : Option Pos) (w2l : Nat) (w2c : Cap) (w10a : Option Pos) (w10l : Nat) (w10c : Cap) (w11 : Int) (w12 : Int) (S : AS) : Option (AV × AS) := b28_j1_1_0_1_0_0_1_1_1 call n n1_1_0_1_0 w0 w2a w2l w2c w10a w10l w10c w11 w12 S
theorem h28_j1_1_0_1_0_0_1_1_1 (call : CallA) (n : Nat) (m1_1_0_1_0 : Nat) : r28_j1_1_0_1_0_0_1_1_1 call n m1_1_0_1_0 = J28_j1_1_0_1_0_0_1_1_1 call n (r28_l1_1_0_1_0 call n  m1_1_0_1_0) := by
  funext w0 w2a w2l w2c w10a w10l w10c w11 w12 S
  rw [J28_j1_1_0_1_0_0_1_1_1, a28_j1_1_0_1_0_0_1_1_1]
def J28_l1_1_0_1_0 (call : CallA) (n : Nat)  (m : Nat) : Option Pos → Option Pos → Nat → Cap → Option Pos → Nat → Cap → Int → Int → AS → Option (AV × AS) := Nat.rec (motive := fun _ => Option Pos → Option Pos → Nat → Cap → Option Pos → Nat → Cap → Int → Int → AS → Option (AV × AS)) (fun _ _ _ _ _ _ _ _ _ _ => none) (fun _ ih w0 w2a w2l w2c w10a w10l w10c w11 w12 S => b28_l1_1_0_1_0 call n (J28_j1_1_0_1_0_0_1_1_1 call n ih) w0 w2a w2l w2c w10a w10l w10c w11 w12 S) m
theorem J28_l1_1_0_1_0_succ (call : CallA) (n : Nat)  (m : Nat) (w0 : Option Pos) (w2a : Option Pos) (w2l : Nat) (w2c : Cap) (w10a : Option Pos) (w10l : Nat) (w10c : Cap) (w11 : Int) (w12 : Int) (S : AS) : J28_l1_1_0_1_0 call n  (m + 1) w0 w2a w2l w2c w10a w10l w10c w11 w12 S = b28_l1_1_0_1_0 call n (J28_j1_1_0_1_0_0_1_1_1 call n (J28_l1_1_0_1_0 call n  m)) w0 w2a w2l w2c w10a w10l w10c w11 w12 S := rfl
theorem h28_l1_1_0_1_0 (call : CallA) (n : Nat)  (m : Nat) : r28_l1_1_0_1_0 call n  m = J28_l1_1_0_1_0 call n  m := by
  induction m with
  | zero => rfl
  | succ m ih =>
    funext w0 w2a w2l w2c w10a w10l w10c w11 w12 S
    rw [J28_l1_1_0_1_0_succ, a28_l1_1_0_1_0, h28_j1_1_0_1_0_0_1_1_1 call n m, ih]
def J28 (call : CallA) (n : Nat) (x0 : Option Pos) (S : AS) : Option (AV × AS) := b28_entry call n (J28_l1_1_0_1_0 call n  n) x0 S
theorem run28 (o : Orc) (n : Nat) (args : List AV) (S : AS) (ho : o 28 args = none) : evF E o (n + 1) (.fn 28) args S = evC E (evF E o n) n 28 (E.at 28 []) 0 (enumT 0 args) S (retK E (E.fn 28)) := by
  rw [evF, ho]; kernel_rfl
theorem J28_eq (call : CallA) (n : Nat) (x0 : Option Pos) (S : AS) : evC E call n 28 (E.at 28 []) 0 (enumT 0 [(.ptr x0)]) S (retK E (E.fn 28)) = J28 call n x0 S := by
  rw [J28, a28_entry, h28_l1_1_0_1_0 call n  n]
theorem F28 {o : Orc} (n : Nat) (x0 : Option Pos) (S : AS) (ho : ∀ args, o 28 args = none) : evF E o (n + 1) (.fn 28) [(.ptr x0)] S = J28 (evF E o n) n x0 S := (run28 o n [(.ptr x0)] S (ho _)).trans (J28_eq _ _ x0 S)
def b29_entry (call : CallA) (n : Nat)  (x0 : Option Pos) (S : AS) : Option (AV × AS) :=
 cond x0.isNone (
 some ((.int .i64 0), S)) (
 gO x0 fun p1 =>
 ldI .i64 S p1.1 (p1.2 + 2) fun v2 =>
 some ((.int .i64 v2), S))

theorem a29_entry (call : CallA) (n : Nat) (x0 : Option Pos) (S : AS) : evC E call n 29 (E.at 29 []) 0 (enumT 0 [(.ptr x0)]) S (retK E (E.fn 29)) = b29_entry call n  x0 S := by kernel_rfl
def J29 (call : CallA) (n : Nat) (x0 : Option Pos) (S : AS) : Option (AV × AS) := b29_entry call n  x0 S
theorem run29 (o : Orc) (n : Nat) (args : List AV) (S : AS) (ho : o 29 args = none) : evF E o (n + 1) (.fn 29) args S = evC E (evF E o n) n 29 (E.at 29 []) 0 (enumT 0 args) S (retK E (E.fn 29)) := by
  rw [evF, ho]; kernel_rfl
theorem J29_eq (call : CallA) (n : Nat) (x0 : Option Pos) (S : AS) : evC E call n 29 (E.at 29 []) 0 (enumT 0 [(.ptr x0)]) S (retK E (E.fn 29)) = J29 call n x0 S := by
  rw [J29, a29_entry]
theorem F29 {o : Orc} (n : Nat) (x0 : Option Pos) (S : AS) (ho : ∀ args, o 29 args = none) : evF E o (n + 1) (.fn 29) [(.ptr x0)] S = J29 (evF E o n) n x0 S := (run29 o n [(.ptr x0)] S (ho _)).trans (J29_eq _ _ x0 S)
def b30_l1_1_1_1_0_1_0 (call : CallA) (n : Nat) (j1_1_1_1_0_1_0_0_1_1 : Int → Option Pos → Nat → Cap → Option Pos → Int → AS → Option (AV × AS)) (j1_1_1_1_1 : Option Pos → AS → Option (AV × AS)) (w0 : Int) (w1a : Option Pos) (w1l : Nat) (w1c : Cap) (w4 : AV) (w5 : AV) (w6 : Option Pos) (w8 : Int) (S : AS) : Option (AV × AS) :=
 cond (decide (w8 < (IntKind.wrap .i64 (8 * ((w1l : Nat) : Int))))) (
 ixSl 1 w1a w1l (IntKind.wrap .i64 (Int.tdiv w8 8)) fun p5 =>
 ldI .u8 S p5.1 p5.2 fun v6 =>
 nneg (IntKind.wrap .u64 (Int.tmod w8 8)) <|
 cond ((andI .u8 (shrI .u8 v6 (IntKind.wrap .u64 (Int.tmod w8 8))) 1) == 0) (
 j1_1_1_1_0_1_0_0_1_1 w0 w1a w1l w1c w6 w8 S) (
 cond (decide (w8 ≥ w0)) (
 some (.tup [(.ptr none), (.int .i64 102)], S)) (
 gO w6 fun p7 =>
 ldL S p7.1 p7.2 fun v8a v8l v8c =>
 ixSl 1 v8a v8l w8 fun p9 =>
 S.stn p9.1 p9.2 [(.int .i64 1)] fun S10 =>
 j1_1_1_1_0_1_0_0_1_1 w0 w1a w1l w1c w6 w8 S10))) (
 j1_1_1_1_1 w6 S)

def b30_j1_1_1_1_0_1_0_0_1_1 (call : CallA) (n : Nat) (l1_1_1_1_0_1_0 : Int → Option Pos → Nat → Cap → AV → AV → Option Pos → Int → AS → Option (AV × AS)) (w0 : Int) (w1a : Option Pos) (w1l : Nat) (w1c : Cap) (w6 : Option Pos) (w8 : Int) (S : AS) : Option (AV × AS) :=
 l1_1_1_1_0_1_0 w0 w1a w1l w1c .undef .undef w6 (IntKind.wrap .i64 (w8 + 1)) S

def b30_j1_1_1_1_1 (call : CallA) (n : Nat)  (w6 : Option Pos) (S : AS) : Option (AV × AS) :=
 some (.tup [(.ptr w6), (.int .i64 0)], S)

def b30_entry (call : CallA) (n : Nat) (l1_1_1_1_0_1_0 : Int → Option Pos → Nat → Cap → AV → AV → Option Pos → Int → AS → Option (AV × AS)) (x0 : Int) (x1a : Option Pos) (x1l : Nat) (x1c : Cap) (S : AS) : Option (AV × AS) :=
 callT call 41 [(.int .i64 x0)] S fun v2 S1 =>
 atP v2 0 fun v3 =>
 atI .i64 v2 1 fun v4 =>
 cond (v4 != 0) (
 some (.tup [(.ptr none), (.int .i64 v4)], S1)) (
 cond (((x1l : Nat) : Int) != (IntKind.wrap .i64 (Int.tdiv (IntKind.wrap .i64 (x0 + 7)) 8))) (
 some (.tup [(.ptr none), (.int .i64 102)], S1)) (
 l1_1_1_1_0_1_0 x0 x1a x1l x1c (.ptr none) (.int .i64 0) v3 0 S1))

def r30_l1_1_1_1_0_1_0 (call : CallA) (n : Nat)  (m : Nat) (w0 : Int) (w1a : Option Pos) (w1l : Nat) (w1c : Cap) (w4 : AV) (w5 : AV) (w6 : Option Pos) (w8 : Int) (S : AS) : Option (AV × AS) := loopN (evC E call n 30 (E.at 30 [1, 1, 1, 1, 0, 1, 0, 0]) 0) [0, 1, 4, 5, 6, 8] m [(0, (.int .i64 w0)), (1, (.sl w1a w1l w1c)), (4, w4), (5, w5), (6, (.ptr w6)), (8, (.int .i64 w8))] S (kBlk 0 (kSeq E call n 30 (E.at 30 [1, 1, 1, 1, 1]) 0 (retK E (E.fn 30))))
def r30_j1_1_1_1_0_1_0_0_1_1 (call : CallA) (n : Nat) (m1_1_1_1_0_1_0 : Nat) (w0 : Int) (w1a : Option Pos) (w1l : Nat) (w1c : Cap) (w6 : Option Pos) (w8 : Int) (S : AS) : Option (AV × AS) := evC E call n 30 (E.at 30 [1, 1, 1, 1, 0, 1, 0, 0, 1, 1]) 0 [(0, (.int .i64 w0)), (1, (.sl w1a w1l w1c)), (6, (.ptr w6)), (8, (.int .i64 w8))] S (kLp (evC E call n 30 (E.at 30 [1, 1, 1, 1, 0, 1, 0, 0]) 0) [0, 1, 4, 5, 6, 8] m1_1_1_1_0_1_0 (kBlk 0 (kSeq E call n 30 (E.at 30 [1, 1, 1, 1, 1]) 0 (retK E (E.fn 30)))))
def r30_j1_1_1_1_1 (call : CallA) (n : Nat)  (w6 : Option Pos) (S : AS) : Option (AV × AS) := evC E call n 30 (E.at 30 [1, 1, 1, 1, 1]) 0 [(6, (.ptr w6))] S (retK E (E.fn 30))
theorem a30_l1_1_1_1_0_1_0 (call : CallA) (n : Nat)  (m : Nat) (w0 : Int) (w1a : Option Pos) (w1l : Nat) (w1c : Cap) (w4 : AV) (w5 : AV) (w6 : Option Pos) (w8 : Int) (S : AS) : r30_l1_1_1_1_0_1_0 call n  (m + 1) w0 w1a w1l w1c w4 w5 w6 w8 S = b30_l1_1_1_1_0_1_0 call n (r30_j1_1_1_1_0_1_0_0_1_1 call n m) (r30_j1_1_1_1_1 call n ) w0 w1a w1l w1c w4 w5 w6 w8 S := by kernel_rfl
theorem a30_j1_1_1_1_0_1_0_0_1_1 (call : CallA) (n : Nat) (m1_1_1_1_0_1_0 : Nat) (w0 : Int) (w1a : Option Pos) (w1l : Nat) (w1c : Cap) (w6 : Option Pos) (w8 : Int) (S : AS) : r30_j1_1_1_1_0_1_0_0_1_1 call n m1_1_1_1_0_1_0 w0 w1a w1l w1c w6 w8 S = b30_j1_1_1_1_0_1_0_0_1_1 call n (r30_l1_1_1_1_0_1_0 call n  m1_1_1_1_0_1_0) w0 w1a w1l w1c w6 w8 S := by kernel_rfl
theorem a30_j1_1_1_1_1 (call : CallA) (n : Nat)  (w6 : Option Pos) (S : AS) : r30_j1_1_1_1_1 call n  w6 S = b30_j1_1_1_1_1 call n  w6 S := by kernel_rfl
theorem a30_entry (call : CallA) (n : Nat) (x0 : Int) (x1a : Option Pos) (x1l : Nat) (x1c : Cap) (S : AS) : evC E call n 30 (E.at 30 []) 0 (enumT 0 [(.int .i64 x0), (.sl x1a x1l x1c)]) S (retK E (E.fn 30)) = b30_entry call n (r30_l1_1_1_1_0_1_0 call n  n) x0 x1a x1l x1c S := by kernel_rfl
def J30_j1_1_1_1_0_1_0_0_1_1 (call : CallA) (n : Nat) (n1_1_1_1_0_1_0 : Int → Option Pos → Nat → Cap → AV → AV → Option Pos → Int → AS → Option (AV × AS)) (w0 : Int) (w1a : Option Pos) (w1l : Nat) (w1c : Cap) (w6 : Option Pos) (w8 : Int) (S : AS) : Option (AV × AS) := b30_j1_1_1_1_0_1_0_0_1_1 call n n1_1_1_1_0_1_0 w0 w1a w1l w1c w6 w8 S
theorem h30_j1_1_1_1_0_1_0_0_1_1 (call : CallA) (n : Nat) (m1_1_1_1_0_1_0 : Nat) : r30_j1_1_1_1_0_1_0_0_1_1 call n m1_1_1_1_0_1_0 = J30_j1_1_1_1_0_1_0_0_1_1 call n (r30_l1_1_1_1_0_1_0 call n  m1_1_1_1_0_1_0) := by
  funext w0 w1a w1l w1c w6 w8 S
  rw [J30_j1_1_1_1_0_1_0_0_1_1, a30_j1_1_1_1_0_1_0_0_1_1]
def J30_j1_1_1_1_1 (call : CallA) (n : Nat)  (w6 : Option Pos) (S : AS) : Option (AV × AS) := b30_j1_1_1_1_1 call n  w6 S
theorem h30_j1_1_1_1_1 (call : CallA) (n : Nat)  : r30_j1_1_1_1_1 call n  = J30_j1_1_1_1_1 call n  := by
  funext w6 S
  rw [J30_j1_1_1_1_1, a30_j1_1_1_1_1]
def J30_l1_1_1_1_0_1_0 (call : CallA) (n : Nat)  (m : Nat) : Int → Option Pos → Nat → Cap → AV → AV → Option Pos → Int → AS → Option (AV × AS) := Nat.rec (motive := fun _ => Int → Option Pos → Nat → Cap → AV → AV → Option Pos → Int → AS → Option (AV × AS)) (fun _ _ _ _ _ _ _ _ _ => none) (fun _ ih w0 w1a w1l w1c w4 w5 w6 w8 S => b30_l1_1_1_1_0_1_0 call n (J30_j1_1_1_1_0_1_0_0_1_1 call n ih) (J30_j1_1_1_1_1 call n ) w0 w1a w1l w1c w4 w5 w6 w8 S) m
theorem J30_l1_1_1_1_0_1_0_succ (call : CallA) (n : Nat)  (m : Nat) (w0 : Int) (w1a : Option Pos) (w1l : Nat) (w1c : Cap) (w4 : AV) (w5 : AV) (w6 : Option Pos) (w8 : Int) (S : AS) : J30_l1_1_1_1_0_1_0 call n  (m + 1) w0 w1a w1l w1c w4 w5 w6 w8 S = b30_l1_1_1_1_0_1_0 call n (J30_j1_1_1_1_0_1_0_0_1_1 call n (J30_l1_1_1_1_0_1_0 call n  m)) (J30_j1_1_1_1_1 call n ) w0 w1a w1l w1c w4 w5 w6 w8 S := rfl
theorem h30_l1_1_1_1_0_1_0 (call : CallA) (n : Nat)  (m : Nat) : r30_l1_1_1_1_0_1_0 call n  m = J30_l1_1_1_1_0_1_0 call n  m := by
  induction m with
  | zero => rfl
  | succ m ih =>
    funext w0 w1a w1l w1c w4 w5 w6 w8 S
    rw [J30_l1_1_1_1_0_1_0_succ, a30_l1_1_1_1_0_1_0, h30_j1_1_1_1_0_1_0_0_1_1 call n m, h30_j1_1_1_1_1 call n , ih]
def J30 (call : CallA) (n : Nat) (x0 : Int) (x1a : Option Pos) (x1l : Nat) (x1c : Cap) (S : AS) : Option (AV × AS) := b30_entry call n (J30_l1_1_1_1_0_1_0 call n  n) x0 x1a x1l x1c S
theorem run30 (o : Orc) (n : Nat) (args : List AV) (S : AS) (ho : o 30 args = none) : evF E o (n + 1) (.fn 30) args S = evC E (evF E o n) n 30 (E.at 30 []) 0 (enumT 0 args) S (retK E (E.fn 30)) := by
  rw [evF, ho]; kernel_rfl
theorem J30_eq (call : CallA) (n : Nat) (x0 : Int) (x1a : Option Pos) (x1l : Nat) (x1c : Cap) (S : AS) : evC E call n 30 (E.at 30 []) 0 (enumT 0 [(.int .i64 x0), (.sl x1a x1l x1c)]) S (retK E (E.fn 30)) = J30 call n x0 x1a x1l x1c S := by
  rw [J30, a30_entry, h30_l1_1_1_1_0_1_0 call n  n]
theorem F30 {o : Orc} (n : Nat) (x0 : Int) (x1a : Option Pos) (x1l : Nat) (x1c : Cap) (S : AS) (ho : ∀ args, o 30 args = none) : evF E o (n + 1) (.fn 30) [(.int .i64 x0), (.sl x1a x1l x1c)] S = J30 (evF E o n) n x0 x1a x1l x1c S := (run30 o n [(.int .i64 x0), (.sl x1a x1l x1c)] S (ho _)).trans (J30_eq _ _ x0 x1a x1l x1c S)
end
end Go.Al
