/- Plain readings of the functions, and that they are what the evaluator does: by program. -/
import Derived.Test.YtjninokocidaaaaGrRes
import Derived.Test.YtjninokocidaaaaENV
import Derived.KernelRfl
set_option maxRecDepth 100000
set_option linter.unusedVariables false
namespace Go.Al
open Go.Gr
noncomputable section
def b66_l1_0_1_0 (call : CallA) (n : Nat) (j1_0_1_0_0_1_0_0_1_1 : Option Pos → Int → Int → Int → AS → Option (AV × AS)) (w0 : Option Pos) (w1 : Int) (w4 : AV) (w5 : Int) (S : AS) : Option (AV × AS) :=
 gO w0 fun p1 =>
 ldL S p1.1 p1.2 fun v2a v2l v2c =>
 cond (decide (w5 < ((v2l : Nat) : Int))) (
 gO w0 fun p3 =>
 ldL S p3.1 p3.2 fun v4a v4l v4c =>
 nz ((v4l : Nat) : Int) <|
 gO w0 fun p5 =>
 ldL S p5.1 p5.2 fun v6a v6l v6c =>
 cond (decide ((IntKind.wrap .i64 (w1 + w5)) ≥ ((v6l : Nat) : Int))) (
 gO w0 fun p7 =>
 ldL S p7.1 p7.2 fun v8a v8l v8c =>
 j1_0_1_0_0_1_0_0_1_1 w0 w1 w5 (IntKind.wrap .i64 ((IntKind.wrap .i64 (w1 + w5)) - ((v8l : Nat) : Int))) S) (
 j1_0_1_0_0_1_0_0_1_1 w0 w1 w5 (Int.tmod (IntKind.wrap .i64 (w1 + w5)) ((v4l : Nat) : Int)) S)) (
 some ((.int .i64 0), S))

def b66_j1_0_1_0_0_1_0_0_1_1 (call : CallA) (n : Nat) (l1_0_1_0 : Option Pos → Int → AV → Int → AS → Option (AV × AS)) (w0 : Option Pos) (w1 : Int) (w5 : Int) (w6 : Int) (S : AS) : Option (AV × AS) :=
 gO w0 fun p9 =>
 ldL S p9.1 p9.2 fun v10a v10l v10c =>
 ixSl 1 v10a v10l w6 fun p11 =>
 ldI .i64 S p11.1 p11.2 fun v12 =>
 cond (v12 == 0) (
 gO w0 fun p13 =>
 ldL S p13.1 p13.2 fun v14a v14l v14c =>
 ixSl 1 v14a v14l w6 fun p15 =>
 S.stn p15.1 p15.2 [(.int .i64 2)] fun S16 =>
 gO w0 fun p17 =>
 ldL S16 p17.1 (p17.2 + 1) fun v18a v18l v18c =>
 newA S16 (.cells [(.int .i64 w6)]) fun b19 S20 =>
 appendA 1 8 S20 v18a v18l v18c 1 (firstA S20 1 1 (.sl (some (.rw b19, 0)) 1 (.ex 1))) fun v21a v21l v21c S22 =>
 gO w0 fun p23 =>
 S22.stn p23.1 (p23.2 + 1) [(.sl v21a v21l v21c)] fun S24 =>
 some ((.int .i64 w6), S24)) (
 l1_0_1_0 w0 w1 .undef (IntKind.wrap .i64 (w5 + 1)) S)

def b66_entry (call : CallA) (n : Nat) (l1_0_1_0 : Option Pos → Int → AV → Int → AS → Option (AV × AS)) (x0 : Option Pos) (x1 : Int) (S : AS) : Option (AV × AS) :=
 l1_0_1_0 x0 x1 (.int .i64 0) 0 S

def r66_l1_0_1_0 (call : CallA) (n : Nat)  (m : Nat) (w0 : Option Pos) (w1 : Int) (w4 : AV) (w5 : Int) (S : AS) : Option (AV × AS) := loopN (evC E call n 66 (E.at 66 [1, 0, 1, 0, 0]) 0) [0, 1, 4, 5] m [(0, (.ptr w0)), (1, (.int .i64 w1)), (4, w4), (5, (.int .i64 w5))] S (kBlk 0 (kSeq E call n 66 (E.at 66 [1, 1]) 0 (retK E (E.fn 66))))
def r66_j1_0_1_0_0_1_0_0_1_1 (call : CallA) (n : Nat) (m1_0_1_0 : Nat) (w0 : Option Pos) (w1 : Int) (w5 : Int) (w6 : Int) (S : AS) : Option (AV × AS) := evC E call n 66 (E.at 66 [1, 0, 1, 0, 0, 1, 0, 0, 1, 1]) 1 [(0, (.ptr w0)), (1, (.int .i64 w1)), (5, (.int .i64 w5)), (6, (.int .i64 w6))] S (kBlk 1 (kSeq E call n 66 (E.at 66 [1, 0, 1, 0, 0, 1, 1]) 0 (kLp (evC E call n 66 (E.at 66 [1, 0, 1, 0, 0]) 0) [0, 1, 4, 5] m1_0_1_0 (kBlk 0 (kSeq E call n 66 (E.at 66 [1, 1]) 0 (retK E (E.fn 66)))))))
theorem a66_l1_0_1_0 (call : CallA) (n : Nat)  (m : Nat) (w0 : Option Pos) (w1 : Int) (w4 : AV) (w5 : Int) (S : AS) : r66_l1_0_1_0 call n  (m + 1) w0 w1 w4 w5 S = b66_l1_0_1_0 call n (r66_j1_0_1_0_0_1_0_0_1_1 call n m) w0 w1 w4 w5 S := by kernel_rfl
theorem a66_j1_0_1_0_0_1_0_0_1_1 (call : CallA) (n : Nat) (m1_0_1_0 : Nat) (w0 : Option Pos) (w1 : Int) (w5 : Int) (w6 : Int) (S : AS) : r66_j1_0_1_0_0_1_0_0_1_1 call n m1_0_1_0 w0 w1 w5 w6 S = b66_j1_0_1_0_0_1_0_0_1_1 call n (r66_l1_0_1_0 call n  m1_0_1_0) w0 w1 w5 w6 S := by kernel_rfl
theorem a66_entry (call : CallA) (n : Nat) (x0 : Option Pos) (x1 : Int) (S : AS) : evC E call n 66 (E.at 66 []) 0 (enumT 0 [(.ptr x0), (.int .i64 x1)]) S (retK E (E.fn 66)) = b66_entry call n (r66_l1_0_1_0 call n  n) x0 x1 S := by kernel_rfl
def J66_j1_0_1_0_0_1_0_0_1_1 (call : CallA) (n : Nat) (n1_0_1_0 : Option Pos → Int → AV → Int → AS → Option (AV × AS)) (w0 : Option Pos) (w1 : Int) (w5 : Int) (w6 : Int) (S : AS) : Option (AV × AS) := b66_j1_0_1_0_0_1_0_0_1_1 call n n1_0_1_0 w0 w1 w5 w6 S
theorem h66_j1_0_1_0_0_1_0_0_1_1 (call : CallA) (n : Nat) (m1_0_1_0 : Nat) : r66_j1_0_1_0_0_1_0_0_1_1 call n m1_0_1_0 = J66_j1_0_1_0_0_1_0_0_1_1 call n (r66_l1_0_1_0 call n  m1_0_1_0) := by
  funext w0 w1 w5 w6 S
  rw [J66_j1_0_1_0_0_1_0_0_1_1, a66_j1_0_1_0_0_1_0_0_1_1]
def J66_l1_0_1_0 (call : CallA) (n : Nat)  (m : Nat) : Option Pos → Int → AV → Int → AS → Option (AV × AS) := Nat.rec (motive := fun _ => Option Pos → Int → AV → Int → AS → Option (AV × AS)) (fun _ _ _ _ _ => none) (fun _ ih w0 w1 w4 w5 S => b66_l1_0_1_0 call n (J66_j1_0_1_0_0_1_0_0_1_1 call n ih) w0 w1 w4 w5 S) m
theorem J66_l1_0_1_0_succ (call : CallA) (n : Nat)  (m : Nat) (w0 : Option Pos) (w1 : Int) (w4 : AV) (w5 : Int) (S : AS) : J66_l1_0_1_0 call n  (m + 1) w0 w1 w4 w5 S = b66_l1_0_1_0 call n (J66_j1_0_1_0_0_1_0_0_1_1 call n (J66_l1_0_1_0 call n  m)) w0 w1 w4 w5 S := rfl
theorem h66_l1_0_1_0 (call : CallA) (n : Nat)  (m : Nat) : r66_l1_0_1_0 call n  m = J66_l1_0_1_0 call n  m := by
  induction m with
  | zero => rfl
  | succ m ih =>
    funext w0 w1 w4 w5 S
    rw [J66_l1_0_1_0_succ, a66_l1_0_1_0, h66_j1_0_1_0_0_1_0_0_1_1 call n m, ih]
def J66 (call : CallA) (n : Nat) (x0 : Option Pos) (x1 : Int) (S : AS) : Option (AV × AS) := b66_entry call n (J66_l1_0_1_0 call n  n) x0 x1 S
theorem run66 (o : Orc) (n : Nat) (args : List AV) (S : AS) (ho : o 66 args = none) : evF E o (n + 1) (.fn 66) args S = evC E (evF E o n) n 66 (E.at 66 []) 0 (enumT 0 args) S (retK E (E.fn 66)) := by
  rw [evF, ho]; kernel_rfl
theorem J66_eq (call : CallA) (n : Nat) (x0 : Option Pos) (x1 : Int) (S : AS) : evC E call n 66 (E.at 66 []) 0 (enumT 0 [(.ptr x0), (.int .i64 x1)]) S (retK E (E.fn 66)) = J66 call n x0 x1 S := by
  rw [J66, a66_entry, h66_l1_0_1_0 call n  n]
theorem F66 {o : Orc} (n : Nat) (x0 : Option Pos) (x1 : Int) (S : AS) (ho : ∀ args, o 66 args = none) : evF E o (n + 1) (.fn 66) [(.ptr x0), (.int .i64 x1)] S = J66 (evF E o n) n x0 x1 S := (run66 o n [(.ptr x0), (.int .i64 x1)] S (ho _)).trans (J66_eq _ _ x0 x1 S)
def b67_l1_1_0_1_0 (call : CallA) (n : Nat) (j1_1_0_1_0_0_1_1 : Option Pos → Nat → Cap → Int → Option Pos → Nat → Cap → Int → AS → Option (AV × AS)) (w0a : Option Pos) (w0l : Nat) (w0c : Cap) (w1 : Int) (w5a : Option Pos) (w5l : Nat) (w5c : Cap) (w6 : Int) (S : AS) : Option (AV × AS) :=
 cond (decide (w6 < ((w0l : Nat) : Int))) (
 ixSl 1 w0a w0l w6 fun p1 =>
 ldI .i64 S p1.1 p1.2 fun v2 =>
 cond (v2 != w1) (
 ixSl 1 w0a w0l w6 fun p3 =>
 ldI .i64 S p3.1 p3.2 fun v4 =>
 newA S (.cells [(.int .i64 v4)]) fun b5 S6 =>
 appendA 1 8 S6 w5a w5l w5c 1 (firstA S6 1 1 (.sl (some (.rw b5, 0)) 1 (.ex 1))) fun v7a v7l v7c S8 =>
 j1_1_0_1_0_0_1_1 w0a w0l w0c w1 v7a v7l v7c w6 S8) (
 j1_1_0_1_0_0_1_1 w0a w0l w0c w1 w5a w5l w5c w6 S)) (
 some ((.sl w5a w5l w5c), S))

def b67_j1_1_0_1_0_0_1_1 (call : CallA) (n : Nat) (l1_1_0_1_0 : Option Pos → Nat → Cap → Int → Option Pos → Nat → Cap → Int → AS → Option (AV × AS)) (w0a : Option Pos) (w0l : Nat) (w0c : Cap) (w1 : Int) (w5a : Option Pos) (w5l : Nat) (w5c : Cap) (w6 : Int) (S : AS) : Option (AV × AS) :=
 l1_1_0_1_0 w0a w0l w0c w1 w5a w5l w5c (IntKind.wrap .i64 (w6 + 1)) S

def b67_entry (call : CallA) (n : Nat) (l1_1_0_1_0 : Option Pos → Nat → Cap → Int → Option Pos → Nat → Cap → Int → AS → Option (AV × AS)) (x0a : Option Pos) (x0l : Nat) (x0c : Cap) (x1 : Int) (S : AS) : Option (AV × AS) :=
 l1_1_0_1_0 x0a x0l x0c x1 none 0 (.ex 0) 0 S

def r67_l1_1_0_1_0 (call : CallA) (n : Nat)  (m : Nat) (w0a : Option Pos) (w0l : Nat) (w0c : Cap) (w1 : Int) (w5a : Option Pos) (w5l : Nat) (w5c : Cap) (w6 : Int) (S : AS) : Option (AV × AS) := loopN (evC E call n 67 (E.at 67 [1, 1, 0, 1, 0, 0]) 0) [0, 1, 5, 6] m [(0, (.sl w0a w0l w0c)), (1, (.int .i64 w1)), (5, (.sl w5a w5l w5c)), (6, (.int .i64 w6))] S (kBlk 0 (kSeq E call n 67 (E.at 67 [1, 1, 1]) 0 (retK E (E.fn 67))))
def r67_j1_1_0_1_0_0_1_1 (call : CallA) (n : Nat) (m1_1_0_1_0 : Nat) (w0a : Option Pos) (w0l : Nat) (w0c : Cap) (w1 : Int) (w5a : Option Pos) (w5l : Nat) (w5c : Cap) (w6 : Int) (S : AS) : Option (AV × AS) := evC E call n 67 (E.at 67 [1, 1, 0, 1, 0, 0, 1, 1]) 0 [(0, (.sl w0a w0l w0c)), (1, (.int .i64 w1)), (5, (.sl w5a w5l w5c)), (6, (.int .i64 w6))] S (kLp (evC E call n 67 (E.at 67 [1, 1, 0, 1, 0, 0]) 0) [0, 1, 5, 6] m1_1_0_1_0 (kBlk 0 (kSeq E call n 67 (E.at 67 [1, 1, 1]) 0 (retK E (E.fn 67)))))
theorem a67_l1_1_0_1_0 (call : CallA) (n : Nat)  (m : Nat) (w0a : Option Pos) (w0l : Nat) (w0c : Cap) (w1 : Int) (w5a : Option Pos) (w5l : Nat) (w5c : Cap) (w6 : Int) (S : AS) : r67_l1_1_0_1_0 call n  (m + 1) w0a w0l w0c w1 w5a w5l w5c w6 S = b67_l1_1_0_1_0 call n (r67_j1_1_0_1_0_0_1_1 call n m) w0a w0l w0c w1 w5a w5l w5c w6 S := by kernel_rfl
theorem a67_j1_1_0_1_0_0_1_1 (call : CallA) (n : Nat) (m1_1_0_1_0 : Nat) (w0a : Option Pos) (w0l : Nat) (w0c : Cap) (w1 : Int) (w5a : Option Pos) (w5l : Nat) (w5c : Cap) (w6 : Int) (S : AS) : r67_j1_1_0_1_0_0_1_1 call n m1_1_0_1_0 w0a w0l w0c w1 w5a w5l w5c w6 S = b67_j1_1_0_1_0_0_1_1 call n (r67_l1_1_0_1_0 call n  m1_1_0_1_0) w0a w0l w0c w1 w5a w5l w5c w6 S := by kernel_rfl
theorem a67_entry (call : CallA) (n : Nat) (x0a : Option Pos) (x0l : Nat) (x0c : Cap) (x1 : Int) (S : AS) : evC E call n 67 (E.at 67 []) 0 (enumT 0 [(.sl x0a x0l x0c), (.int .i64 x1)]) S (retK E (E.fn 67)) = b67_entry call n (r67_l1_1_0_1_0 call n  n) x0a x0l x0c x1 S := by kernel_rfl
def J67_j1_1_0_1_0_0_1_1 (call : CallA) (n : Nat) (n1_1_0_1_0 : Option Pos → Nat → Cap → Int → Option Pos → Nat → Cap → Int → AS → Option (AV × AS)) (w0a : Option Pos) (w0l : Nat) (w0c : Cap) (w1 : Int) (w5a : Option Pos) (w5l : Nat) (w5c : Cap) (w6 : Int) (S : AS) : Option (AV × AS) := b67_j1_1_0_1_0_0_1_1 call n n1_1_0_1_0 w0a w0l w0c w1 w5a w5l w5c w6 S
theorem h67_j1_1_0_1_0_0_1_1 (call : CallA) (n : Nat) (m1_1_0_1_0 : Nat) : r67_j1_1_0_1_0_0_1_1 call n m1_1_0_1_0 = J67_j1_1_0_1_0_0_1_1 call n (r67_l1_1_0_1_0 call n  m1_1_0_1_0) := by
  funext w0a w0l w0c w1 w5a w5l w5c w6 S
  rw [J67_j1_1_0_1_0_0_1_1, a67_j1_1_0_1_0_0_1_1]
def J67_l1_1_0_1_0 (call : CallA) (n : Nat)  (m : Nat) : Option Pos → Nat → Cap → Int → Option Pos → Nat → Cap → Int → AS → Option (AV × AS) := Nat.rec (motive := fun _ => Option Pos → Nat → Cap → Int → Option Pos → Nat → Cap → Int → AS → Option (AV × AS)) (fun _ _ _ _ _ _ _ _ _ => none) (fun _ ih w0a w0l w0c w1 w5a w5l w5c w6 S => b67_l1_1_0_1_0 call n (J67_j1_1_0_1_0_0_1_1 call n ih) w0a w0l w0c w1 w5a w5l w5c w6 S) m
theorem J67_l1_1_0_1_0_succ (call : CallA) (n : Nat)  (m : Nat) (w0a : Option Pos) (w0l : Nat) (w0c : Cap) (w1 : Int) (w5a : Option Pos) (w5l : Nat) (w5c : Cap) (w6 : Int) (S : AS) : J67_l1_1_0_1_0 call n  (m + 1) w0a w0l w0c w1 w5a w5l w5c w6 S = b67_l1_1_0_1_0 call n (J67_j1_1_0_1_0_0_1_1 call n (J67_l1_1_0_1_0 call n  m)) w0a w0l w0c w1 w5a w5l w5c w6 S := rfl
theorem h67_l1_1_0_1_0 (call : CallA) (n : Nat)  (m : Nat) : r67_l1_1_0_1_0 call n  m = J67_l1_1_0_1_0 call n  m := by
  induction m with
  | zero => rfl
  | succ m ih =>
    funext w0a w0l w0c w1 w5a w5l w5c w6 S
    rw [J67_l1_1_0_1_0_succ, a67_l1_1_0_1_0, h67_j1_1_0_1_0_0_1_1 call n m, ih]
def J67 (call : CallA) (n : Nat) (x0a : Option Pos) (x0l : Nat) (x0c : Cap) (x1 : Int) (S : AS) : Option (AV × AS) := b67_entry call n (J67_l1_1_0_1_0 call n  n) x0a x0l x0c x1 S
theorem run67 (o : Orc) (n : Nat) (args : List AV) (S : AS) (ho : o 67 args = none) : evF E o (n + 1) (.fn 67) args S = evC E (evF E o n) n 67 (E.at 67 []) 0 (enumT 0 args) S (retK E (E.fn 67)) := by
  rw [evF, ho]; kernel_rfl
theorem J67_eq (call : CallA) (n : Nat) (x0a : Option Pos) (x0l : Nat) (x0c : Cap) (x1 : Int) (S : AS) : evC E call n 67 (E.at 67 []) 0 (enumT 0 [(.sl x0a x0l x0c), (.int .i64 x1)]) S (retK E (E.fn 67)) = J67 call n x0a x0l x0c x1 S := by
  rw [J67, a67_entry, h67_l1_1_0_1_0 call n  n]
theorem F67 {o : Orc} (n : Nat) (x0a : Option Pos) (x0l : Nat) (x0c : Cap) (x1 : Int) (S : AS) (ho : ∀ args, o 67 args = none) : evF E o (n + 1) (.fn 67) [(.sl x0a x0l x0c), (.int .i64 x1)] S = J67 (evF E o n) n x0a x0l x0c x1 S := (run67 o n [(.sl x0a x0l x0c), (.int .i64 x1)] S (ho _)).trans (J67_eq _ _ x0a x0l x0c x1 S)
def b68_l1_1_0_1_0 (call : CallA) (n : Nat) (j1_1_0_1_0_0_1_1 : Option Pos → Int → Int → Option Pos → Nat → Cap → Int → AS → Option (AV × AS)) (j1_1_1 : Option Pos → Int → Option Pos → Nat → Cap → AS → Option (AV × AS)) (w0 : Option Pos) (w1 : Int) (w2 : Int) (w7a : Option Pos) (w7l : Nat) (w7c : Cap) (w8 : Int) (S : AS) : Option (AV × AS) :=
 gO w0 fun p1 =>
 ldL S p1.1 p1.2 fun v2a v2l v2c =>
 cond (decide (w8 < ((v2l : Nat) : Int))) (
 gO w0 fun p3 =>
 ldL S p3.1 p3.2 fun v4a v4l v4c =>
 ixSl 1 v4a v4l w8 fun p5 =>
 ldI .i64 S p5.1 p5.2 fun v6 =>
 cond (v6 == w1) (
 newA S (.cells [(.int .i64 w8)]) fun b7 S8 =>
 appendA 1 8 S8 w7a w7l w7c 1 (firstA S8 1 1 (.sl (some (.rw b7, 0)) 1 (.ex 1))) fun v9a v9l v9c S10 =>
 j1_1_0_1_0_0_1_1 w0 w1 w2 v9a v9l v9c w8 S10) (
 j1_1_0_1_0_0_1_1 w0 w1 w2 w7a w7l w7c w8 S)) (
 j1_1_1 w0 w2 w7a w7l w7c S)

def b68_j1_1_0_1_0_0_1_1 (call : CallA) (n : Nat) (l1_1_0_1_0 : Option Pos → Int → Int → Option Pos → Nat → Cap → Int → AS → Option (AV × AS)) (w0 : Option Pos) (w1 : Int) (w2 : Int) (w7a : Option Pos) (w7l : Nat) (w7c : Cap) (w8 : Int) (S : AS) : Option (AV × AS) :=
 l1_1_0_1_0 w0 w1 w2 w7a w7l w7c (IntKind.wrap .i64 (w8 + 1)) S

def b68_j1_1_1 (call : CallA) (n : Nat) (l1_1_1_0_1_0 : Option Pos → Int → Option Pos → Nat → Cap → Int → AS → Option (AV × AS)) (w0 : Option Pos) (w2 : Int) (w7a : Option Pos) (w7l : Nat) (w7c : Cap) (S : AS) : Option (AV × AS) :=
 l1_1_1_0_1_0 w0 w2 w7a w7l w7c 0 S

def b68_l1_1_1_0_1_0 (call : CallA) (n : Nat) (l1_1_1_0_1_0 : Option Pos → Int → Option Pos → Nat → Cap → Int → AS → Option (AV × AS)) (w0 : Option Pos) (w2 : Int) (w7a : Option Pos) (w7l : Nat) (w7c : Cap) (w9 : Int) (S : AS) : Option (AV × AS) :=
 cond (decide (w9 < ((w7l : Nat) : Int))) (
 gO w0 fun p11 =>
 ldL S p11.1 p11.2 fun v12a v12l v12c =>
 ixSl 1 w7a w7l w9 fun p13 =>
 ldI .i64 S p13.1 p13.2 fun v14 =>
 ixSl 1 v12a v12l v14 fun p15 =>
 S.stn p15.1 p15.2 [(.int .i64 w2)] fun S16 =>
 l1_1_1_0_1_0 w0 w2 w7a w7l w7c (IntKind.wrap .i64 (w9 + 1)) S16) (
 some ((.sl w7a w7l w7c), S))

def b68_entry (call : CallA) (n : Nat) (l1_1_0_1_0 : Option Pos → Int → Int → Option Pos → Nat → Cap → Int → AS → Option (AV × AS)) (x0 : Option Pos) (x1 : Int) (x2 : Int) (S : AS) : Option (AV × AS) :=
 l1_1_0_1_0 x0 x1 x2 none 0 (.ex 0) 0 S

def r68_l1_1_0_1_0 (call : CallA) (n : Nat)  (m : Nat) (w0 : Option Pos) (w1 : Int) (w2 : Int) (w7a : Option Pos) (w7l : Nat) (w7c : Cap) (w8 : Int) (S : AS) : Option (AV × AS) := loopN (evC E call n 68 (E.at 68 [1, 1, 0, 1, 0, 0]) 0) [0, 1, 2, 7, 8] m [(0, (.ptr w0)), (1, (.int .i64 w1)), (2, (.int .i64 w2)), (7, (.sl w7a w7l w7c)), (8, (.int .i64 w8))] S (kBlk 0 (kSeq E call n 68 (E.at 68 [1, 1, 1]) 0 (retK E (E.fn 68))))
def r68_j1_1_0_1_0_0_1_1 (call : CallA) (n : Nat) (m1_1_0_1_0 : Nat) (w0 : Option Pos) (w1 : Int) (w2 : Int) (w7a : Option Pos) (w7l : Nat) (w7c : Cap) (w8 : Int) (S : AS) : Option (AV × AS) := evC E call n 68 (E.at 68 [1, 1, 0, 1, 0, 0, 1, 1]) 0 [(0, (.ptr w0)), (1, (.int .i64 w1)), (2, (.int .i64 w2)), (7, (.sl w7a w7l w7c)), (8, (.int .i64 w8))] S (kLp (evC E call n 68 (E.at 68 [1, 1, 0, 1, 0, 0]) 0) [0, 1, 2, 7, 8] m1_1_0_1_0 (kBlk 0 (kSeq E call n 68 (E.at 68 [1, 1, 1]) 0 (retK E (E.fn 68)))))
def r68_j1_1_1 (call : CallA) (n : Nat)  (w0 : Option Pos) (w2 : Int) (w7a : Option Pos) (w7l : Nat) (w7c : Cap) (S : AS) : Option (AV × AS) := evC E call n 68 (E.at 68 [1, 1, 1]) 0 [(0, (.ptr w0)), (2, (.int .i64 w2)), (7, (.sl w7a w7l w7c))] S (retK E (E.fn 68))
def r68_l1_1_1_0_1_0 (call : CallA) (n : Nat)  (m : Nat) (w0 : Option Pos) (w2 : Int) (w7a : Option Pos) (w7l : Nat) (w7c : Cap) (w9 : Int) (S : AS) : Option (AV × AS) := loopN (evC E call n 68 (E.at 68 [1, 1, 1, 0, 1, 0, 0]) 2) [0, 2, 7, 9] m [(0, (.ptr w0)), (2, (.int .i64 w2)), (7, (.sl w7a w7l w7c)), (9, (.int .i64 w9))] S (kBlk 2 (kSeq E call n 68 (E.at 68 [1, 1, 1, 1]) 0 (retK E (E.fn 68))))
theorem a68_l1_1_0_1_0 (call : CallA) (n : Nat)  (m : Nat) (w0 : Option Pos) (w1 : Int) (w2 : Int) (w7a : Option Pos) (w7l : Nat) (w7c : Cap) (w8 : Int) (S : AS) : r68_l1_1_0_1_0 call n  (m + 1) w0 w1 w2 w7a w7l w7c w8 S = b68_l1_1_0_1_0 call n (r68_j1_1_0_1_0_0_1_1 call n m) (r68_j1_1_1 call n ) w0 w1 w2 w7a w7l w7c w8 S := by kernel_rfl
theorem a68_j1_1_0_1_0_0_1_1 (call : CallA) (n : Nat) (m1_1_0_1_0 : Nat) (w0 : Option Pos) (w1 : Int) (w2 : Int) (w7a : Option Pos) (w7l : Nat) (w7c : Cap) (w8 : Int) (S : AS) : r68_j1_1_0_1_0_0_1_1 call n m1_1_0_1_0 w0 w1 w2 w7a w7l w7c w8 S = b68_j1_1_0_1_0_0_1_1 call n (r68_l1_1_0_1_0 call n  m1_1_0_1_0) w0 w1 w2 w7a w7l w7c w8 S := by kernel_rfl
theorem a68_j1_1_1 (call : CallA) (n : Nat)  (w0 : Option Pos) (w2 : Int) (w7a : Option Pos) (w7l : Nat) (w7c : Cap) (S : AS) : r68_j1_1_1 call n  w0 w2 w7a w7l w7c S = b68_j1_1_1 call n (r68_l1_1_1_0_1_0 call n  n) w0 w2 w7a w7l w7c S := by kernel_rfl
theorem a68_l1_1_1_0_1_0 (call : CallA) (n : Nat)  (m : Nat) (w0 : Option Pos) (w2 : Int) (w7a : Option Pos) (w7l : Nat) (w7c : Cap) (w9 : Int) (S : AS) : r68_l1_1_1_0_1_0 call n  (m + 1) w0 w2 w7a w7l w7c w9 S = b68_l1_1_1_0_1_0 call n (r68_l1_1_1_0_1_0 call n  m) w0 w2 w7a w7l w7c w9 S := by kernel_rfl
theorem a68_entry (call : CallA) (n : Nat) (x0 : Option Pos) (x1 : Int) (x2 : Int) (S : AS) : evC E call n 68 (E.at 68 []) 0 (enumT 0 [(.ptr x0), (.int .i64 x1), (.int .i64 x2)]) S (retK E (E.fn 68)) = b68_entry call n (r68_l1_1_0_1_0 call n  n) x0 x1 x2 S := by kernel_rfl
def J68_j1_1_0_1_0_0_1_1 (call : CallA) (n : Nat) (n1_1_0_1_0 : Option Pos → Int → Int → Option Pos → Nat → Cap → Int → AS → Option (AV × AS)) (w0 : Option Pos) (w1 : Int) (w2 : Int) (w7a : Option Pos) (w7l : Nat) (w7c : Cap) (w8 : Int) (S : AS) : Option (AV × AS) := b68_j1_1_0_1_0_0_1_1 call n n1_1_0_1_0 w0 w1 w2 w7a w7l w7c w8 S
theorem h68_j1_1_0_1_0_0_1_1 (call : CallA) (n : Nat) (m1_1_0_1_0 : Nat) : r68_j1_1_0_1_0_0_1_1 call n m1_1_0_1_0 = J68_j1_1_0_1_0_0_1_1 call n (r68_l1_1_0_1_0 call n  m1_1_0_1_0) := by
  funext w0 w1 w2 w7a w7l w7c w8 S
  rw [J68_j1_1_0_1_0_0_1_1, a68_j1_1_0_1_0_0_1_1]
def J68_l1_1_1_0_1_0 (call : CallA) (n : Nat)  (m : Nat) : Option Pos → Int → Option Pos → Nat → Cap → Int → AS → Option (AV × AS) := Nat.rec (motive := fun _ => Option Pos → Int → Option Pos → Nat → Cap → Int → AS → Option (AV × AS)) (fun _ _ _ _ _ _ _ => none) (fun _ ih w0 w2 w7a w7l w7c w9 S => b68_l1_1_1_0_1_0 call n ih w0 w2 w7a w7l w7c w9 S) m
theorem J68_l1_1_1_0_1_0_succ (call : CallA) (n : Nat)  (m : Nat) (w0 : Option Pos) (w2 : Int) (w7a : Option Pos) (w7l : Nat) (w7c : Cap) (w9 : Int) (S : AS) : J68_l1_1_1_0_1_0 call n  (m + 1) w0 w2 w7a w7l w7c w9 S = b68_l1_1_1_0_1_0 call n (J68_l1_1_1_0_1_0 call n  m) w0 w2 w7a w7l w7c w9 S := rfl
theorem h68_l1_1_1_0_1_0 (call : CallA) (n : Nat)  (m : Nat) : r68_l1_1_1_0_1_0 call n  m = J68_l1_1_1_0_1_0 call n  m := by
  induction m with
  | zero => rfl
  | succ m ih =>
    funext w0 w2 w7a w7l w7c w9 S
    rw [J68_l1_1_1_0_1_0_succ, a68_l1_1_1_0_1_0, ih]
def J68_j1_1_1 (call : CallA) (n : Nat)  (w0 : Option Pos) (w2 : Int) (w7a : Option Pos) (w7l : Nat) (w7c : Cap) (S : AS) : Option (AV × AS) := b68_j1_1_1 call n (J68_l1_1_1_0_1_0 call n  n) w0 w2 w7a w7l w7c S
theorem h68_j1_1_1 (call : CallA) (n : Nat)  : r68_j1_1_1 call n  = J68_j1_1_1 call n  := by
  funext w0 w2 w7a w7l w7c S
  rw [J68_j1_1_1, a68_j1_1_1, h68_l1_1_1_0_1_0 call n  n]
def J68_l1_1_0_1_0 (call : CallA) (n : Nat)  (m : Nat) : Option Pos → Int → Int → Option Pos → Nat → Cap → Int → AS → Option (AV × AS) := Nat.rec (motive := fun _ => Option Pos → Int → Int → Option Pos → Nat → Cap → Int → AS → Option (AV × AS)) (fun _ _ _ _ _ _ _ _ => none) (fun _ ih w0 w1 w2 w7a w7l w7c w8 S => b68_l1_1_0_1_0 call n (J68_j1_1_0_1_0_0_1_1 call n ih) (J68_j1_1_1 call n ) w0 w1 w2 w7a w7l w7c w8 S) m
theorem J68_l1_1_0_1_0_succ (call : CallA) (n : Nat)  (m : Nat) (w0 : Option Pos) (w1 : Int) (w2 : Int) (w7a : Option Pos) (w7l : Nat) (w7c : Cap) (w8 : Int) (S : AS) : J68_l1_1_0_1_0 call n  (m + 1) w0 w1 w2 w7a w7l w7c w8 S = b68_l1_1_0_1_0 call n (J68_j1_1_0_1_0_0_1_1 call n (J68_l1_1_0_1_0 call n  m)) (J68_j1_1_1 call n ) w0 w1 w2 w7a w7l w7c w8 S := rfl
theorem h68_l1_1_0_1_0 (call : CallA) (n : Nat)  (m : Nat) : r68_l1_1_0_1_0 call n  m = J68_l1_1_0_1_0 call n  m := by
  induction m with
  | zero => rfl
  | succ m ih =>
    funext w0 w1 w2 w7a w7l w7c w8 S
    rw [J68_l1_1_0_1_0_succ, a68_l1_1_0_1_0, h68_j1_1_0_1_0_0_1_1 call n m, h68_j1_1_1 call n , ih]
def J68 (call : CallA) (n : Nat) (x0 : Option Pos) (x1 : Int) (x2 : Int) (S : AS) : Option (AV × AS) := b68_entry call n (J68_l1_1_0_1_0 call n  n) x0 x1 x2 S
theorem run68 (o : Orc) (n : Nat) (args : List AV) (S : AS) (ho : o 68 args = none) : evF E o (n + 1) (.fn 68) args S = evC E (evF E o n) n 68 (E.at 68 []) 0 (enumT 0 args) S (retK E (E.fn 68)) := by
  rw [evF, ho]; kernel_rfl
theorem J68_eq (call : CallA) (n : Nat) (x0 : Option Pos) (x1 : Int) (x2 : Int) (S : AS) : evC E call n 68 (E.at 68 []) 0 (enumT 0 [(.ptr x0), (.int .i64 x1), (.int .i64 x2)]) S (retK E (E.fn 68)) = J68 call n x0 x1 x2 S := by
  rw [J68, a68_entry, h68_l1_1_0_1_0 call n  n]
theorem F68 {o : Orc} (n : Nat) (x0 : Option Pos) (x1 : Int) (x2 : Int) (S : AS) (ho : ∀ args, o 68 args = none) : evF E o (n + 1) (.fn 68) [(.ptr x0), (.int .i64 x1), (.int .i64 x2)] S = J68 (evF E o n) n x0 x1 x2 S := (run68 o n [(.ptr x0), (.int .i64 x1), (.int .i64 x2)] S (ho _)).trans (J68_eq _ _ x0 x1 x2 S)
def b69_l1_0 (call : CallA) (n : Nat) (l1_0_0_1_0_0_1_0 : Option Pos → Nat → Cap → Int → Int → Int → Int → AS → Option (AV × AS)) (w0a : Option Pos) (w0l : Nat) (w0c : Cap) (w1 : Int) (w2 : Int) (w6 : Int) (S : AS) : Option (AV × AS) :=
 cond (decide (w6 < w2)) (
 l1_0_0_1_0_0_1_0 w0a w0l w0c w1 w2 w6 w6 S) (
 some (.tup [], S))

def b69_l1_0_0_1_0_0_1_0 (call : CallA) (n : Nat) (l1_0_0_1_0_0_1_0 : Option Pos → Nat → Cap → Int → Int → Int → Int → AS → Option (AV × AS)) (l1_0 : Option Pos → Nat → Cap → Int → Int → Int → AS → Option (AV × AS)) (w0a : Option Pos) (w0l : Nat) (w0c : Cap) (w1 : Int) (w2 : Int) (w6 : Int) (w7 : Int) (S : AS) : Option (AV × AS) :=
 cond (decide (w7 > w1)) (
 ixSl 1 w0a w0l w7 fun p1 =>
 ldI .i64 S p1.1 p1.2 fun v2 =>
 ixSl 1 w0a w0l (IntKind.wrap .i64 (w7 - 1)) fun p3 =>
 ldI .i64 S p3.1 p3.2 fun v4 =>
 callB call 75 [(.int .i64 v2), (.int .i64 v4)] S fun v6 S5 =>
 cond v6 (
 ixSl 1 w0a w0l (IntKind.wrap .i64 (w7 - 1)) fun p7 =>
 ldI .i64 S5 p7.1 p7.2 fun v8 =>
 ixSl 1 w0a w0l w7 fun p9 =>
 ldI .i64 S5 p9.1 p9.2 fun v10 =>
 ixSl 1 w0a w0l w7 fun p11 =>
 S5.stn p11.1 p11.2 [(.int .i64 v8)] fun S12 =>
 ixSl 1 w0a w0l (IntKind.wrap .i64 (w7 - 1)) fun p13 =>
 S12.stn p13.1 p13.2 [(.int .i64 v10)] fun S14 =>
 l1_0_0_1_0_0_1_0 w0a w0l w0c w1 w2 w6 (IntKind.wrap .i64 (w7 - 1)) S14) (
 l1_0 w0a w0l w0c w1 w2 (IntKind.wrap .i64 (w6 + 1)) S5)) (
 l1_0 w0a w0l w0c w1 w2 (IntKind.wrap .i64 (w6 + 1)) S)

def b69_entry (call : CallA) (n : Nat) (l1_0 : Option Pos → Nat → Cap → Int → Int → Int → AS → Option (AV × AS)) (x0a : Option Pos) (x0l : Nat) (x0c : Cap) (x1 : Int) (x2 : Int) (S : AS) : Option (AV × AS) :=
 l1_0 x0a x0l x0c x1 x2 (IntKind.wrap .i64 (x1 + 1)) S

def r69_l1_0 (call : CallA) (n : Nat)  (m : Nat) (w0a : Option Pos) (w0l : Nat) (w0c : Cap) (w1 : Int) (w2 : Int) (w6 : Int) (S : AS) : Option (AV × AS) := loopN (evC E call n 69 (E.at 69 [1, 0, 0]) 0) [0, 1, 2, 6] m [(0, (.sl w0a w0l w0c)), (1, (.int .i64 w1)), (2, (.int .i64 w2)), (6, (.int .i64 w6))] S (kBlk 0 (retK E (E.fn 69)))
def r69_l1_0_0_1_0_0_1_0 (call : CallA) (n : Nat) (m1_0 : Nat) (m : Nat) (w0a : Option Pos) (w0l : Nat) (w0c : Cap) (w1 : Int) (w2 : Int) (w6 : Int) (w7 : Int) (S : AS) : Option (AV × AS) := loopN (evC E call n 69 (E.at 69 [1, 0, 0, 1, 0, 0, 1, 0, 0]) 2) [0, 1, 2, 6, 7] m [(0, (.sl w0a w0l w0c)), (1, (.int .i64 w1)), (2, (.int .i64 w2)), (6, (.int .i64 w6)), (7, (.int .i64 w7))] S (kBlk 2 (kBlk 1 (kSeq E call n 69 (E.at 69 [1, 0, 0, 1, 1]) 0 (kLp (evC E call n 69 (E.at 69 [1, 0, 0]) 0) [0, 1, 2, 6] m1_0 (kBlk 0 (retK E (E.fn 69)))))))
theorem a69_l1_0 (call : CallA) (n : Nat)  (m : Nat) (w0a : Option Pos) (w0l : Nat) (w0c : Cap) (w1 : Int) (w2 : Int) (w6 : Int) (S : AS) : r69_l1_0 call n  (m + 1) w0a w0l w0c w1 w2 w6 S = b69_l1_0 call n (r69_l1_0_0_1_0_0_1_0 call n m n) w0a w0l w0c w1 w2 w6 S := by kernel_rfl
theorem a69_l1_0_0_1_0_0_1_0 (call : CallA) (n : Nat) (m1_0 : Nat) (m : Nat) (w0a : Option Pos) (w0l : Nat) (w0c : Cap) (w1 : Int) (w2 : Int) (w6 : Int) (w7 : Int) (S : AS) : r69_l1_0_0_1_0_0_1_0 call n m1_0 (m + 1) w0a w0l w0c w1 w2 w6 w7 S = b69_l1_0_0_1_0_0_1_0 call n (r69_l1_0_0_1_0_0_1_0 call n m1_0 m) (r69_l1_0 call n  m1_0) w0a w0l w0c w1 w2 w6 w7 S := by kernel_rfl
theorem a69_entry (call : CallA) (n : Nat) (x0a : Option Pos) (x0l : Nat) (x0c : Cap) (x1 : Int) (x2 : Int) (S : AS) : evC E call n 69 (E.at 69 []) 0 (enumT 0 [(.sl x0a x0l x0c), (.int .i64 x1), (.int .i64 x2)]) S (retK E (E.fn 69)) = b69_entry call n (r69_l1_0 call n  n) x0a x0l x0c x1 x2 S := by kernel_rfl
def J69_l1_0_0_1_0_0_1_0 (call : CallA) (n : Nat) (n1_0 : Option Pos → Nat → Cap → Int → Int → Int → AS → Option (AV × AS)) (m : Nat) : Option Pos → Nat → Cap → Int → Int → Int → Int → AS → Option (AV × AS) := Nat.rec (motive := fun _ => Option Pos → Nat → Cap → Int → Int → Int → Int → AS → Option (AV × AS)) (fun _ _ _ _ _ _ _ _ => none) (fun _ ih w0a w0l w0c w1 w2 w6 w7 S => b69_l1_0_0_1_0_0_1_0 call n ih n1_0 w0a w0l w0c w1 w2 w6 w7 S) m
theorem J69_l1_0_0_1_0_0_1_0_succ (call : CallA) (n : Nat) (n1_0 : Option Pos → Nat → Cap → Int → Int → Int → AS → Option (AV × AS)) (m : Nat) (w0a : Option Pos) (w0l : Nat) (w0c : Cap) (w1 : Int) (w2 : Int) (w6 : Int) (w7 : Int) (S : AS) : J69_l1_0_0_1_0_0_1_0 call n n1_0 (m + 1) w0a w0l w0c w1 w2 w6 w7 S = b69_l1_0_0_1_0_0_1_0 call n (J69_l1_0_0_1_0_0_1_0 call n n1_0 m) n1_0 w0a w0l w0c w1 w2 w6 w7 S := rfl
theorem h69_l1_0_0_1_0_0_1_0 (call : CallA) (n : Nat) (m1_0 : Nat) (m : Nat) : r69_l1_0_0_1_0_0_1_0 call n m1_0 m = J69_l1_0_0_1_0_0_1_0 call n (r69_l1_0 call n  m1_0) m := by
  induction m with
  | zero => rfl
  | succ m ih =>
    funext w0a w0l w0c w1 w2 w6 w7 S
    rw [J69_l1_0_0_1_0_0_1_0_succ, a69_l1_0_0_1_0_0_1_0, ih]
def J69_l1_0 (call : CallA) (n : Nat)  (m : Nat) : Option Pos → Nat → Cap → Int → Int → Int → AS → Option (AV × AS) := Nat.rec (motive := fun _ => Option Pos → Nat → Cap → Int → Int → Int → AS → Option (AV × AS)) (fun _ _ _ _ _ _ _ => none) (fun _ ih w0a w0l w0c w1 w2 w6 S => b69_l1_0 call n (J69_l1_0_0_1_0_0_1_0 call n ih n) w0a w0l w0c w1 w2 w6 S) m
theorem J69_l1_0_succ (call : CallA) (n : Nat)  (m : Nat) (w0a : Option Pos) (w0l : Nat) (w0c : Cap) (w1 : Int) (w2 : Int) (w6 : Int) (S : AS) : J69_l1_0 call n  (m + 1) w0a w0l w0c w1 w2 w6 S = b69_l1_0 call n (J69_l1_0_0_1_0_0_1_0 call n (J69_l1_0 call n  m) n) w0a w0l w0c w1 w2 w6 S := rfl
theorem h69_l1_0 (call : CallA) (n : Nat)  (m : Nat) : r69_l1_0 call n  m = J69_l1_0 call n  m := by
  induction m with
  | zero => rfl
  | succ m ih =>
    funext w0a w0l w0c w1 w2 w6 S
    rw [J69_l1_0_succ, a69_l1_0, h69_l1_0_0_1_0_0_1_0 call n m n, ih]
def J69 (call : CallA) (n : Nat) (x0a : Option Pos) (x0l : Nat) (x0c : Cap) (x1 : Int) (x2 : Int) (S : AS) : Option (AV × AS) := b69_entry call n (J69_l1_0 call n  n) x0a x0l x0c x1 x2 S
theorem run69 (o : Orc) (n : Nat) (args : List AV) (S : AS) (ho : o 69 args = none) : evF E o (n + 1) (.fn 69) args S = evC E (evF E o n) n 69 (E.at 69 []) 0 (enumT 0 args) S (retK E (E.fn 69)) := by
  rw [evF, ho]; kernel_rfl
theorem J69_eq (call : CallA) (n : Nat) (x0a : Option Pos) (x0l : Nat) (x0c : Cap) (x1 : Int) (x2 : Int) (S : AS) : evC E call n 69 (E.at 69 []) 0 (enumT 0 [(.sl x0a x0l x0c), (.int .i64 x1), (.int .i64 x2)]) S (retK E (E.fn 69)) = J69 call n x0a x0l x0c x1 x2 S := by
  rw [J69, a69_entry, h69_l1_0 call n  n]
theorem F69 {o : Orc} (n : Nat) (x0a : Option Pos) (x0l : Nat) (x0c : Cap) (x1 : Int) (x2 : Int) (S : AS) (ho : ∀ args, o 69 args = none) : evF E o (n + 1) (.fn 69) [(.sl x0a x0l x0c), (.int .i64 x1), (.int .i64 x2)] S = J69 (evF E o n) n x0a x0l x0c x1 x2 S := (run69 o n [(.sl x0a x0l x0c), (.int .i64 x1), (.int .i64 x2)] S (ho _)).trans (J69_eq _ _ x0a x0l x0c x1 x2 S)
def b70_l1_1_1_0_1_0 (call : CallA) (n : Nat) (l1_1_1_0_1_0 : Option Pos → Nat → Cap → Int → Int → Int → Int → AS → Option (AV × AS)) (j1_1_1_1 : Option Pos → Nat → Cap → Int → Int → Int → AS → Option (AV × AS)) (w0a : Option Pos) (w0l : Nat) (w0c : Cap) (w6 : Int) (w7 : Int) (w8 : Int) (w9 : Int) (S : AS) : Option (AV × AS) :=
 cond (decide (w9 ≥ 0)) (
 callT call 80 [(.sl w0a w0l w0c), (.int .i64 w9), (.int .i64 w8), (.int .i64 w6)] S fun v2 S1 =>
 l1_1_1_0_1_0 w0a w0l w0c w6 w7 w8 (IntKind.wrap .i64 (w9 - 1)) S1) (
 j1_1_1_1 w0a w0l w0c w6 w7 w8 S)

def b70_j1_1_1_1 (call : CallA) (n : Nat) (l1_1_1_1_1_0 : Option Pos → Nat → Cap → Int → Int → Int → AS → Option (AV × AS)) (w0a : Option Pos) (w0l : Nat) (w0c : Cap) (w6 : Int) (w7 : Int) (w8 : Int) (S : AS) : Option (AV × AS) :=
 l1_1_1_1_1_0 w0a w0l w0c w6 w7 (IntKind.wrap .i64 (w8 - 1)) S

def b70_l1_1_1_1_1_0 (call : CallA) (n : Nat) (l1_1_1_1_1_0 : Option Pos → Nat → Cap → Int → Int → Int → AS → Option (AV × AS)) (w0a : Option Pos) (w0l : Nat) (w0c : Cap) (w6 : Int) (w7 : Int) (w10 : Int) (S : AS) : Option (AV × AS) :=
 cond (decide (w10 ≥ 0)) (
 ixSl 1 w0a w0l (IntKind.wrap .i64 (w6 + w10)) fun p3 =>
 ldI .i64 S p3.1 p3.2 fun v4 =>
 ixSl 1 w0a w0l w6 fun p5 =>
 ldI .i64 S p5.1 p5.2 fun v6 =>
 ixSl 1 w0a w0l w6 fun p7 =>
 S.stn p7.1 p7.2 [(.int .i64 v4)] fun S8 =>
 ixSl 1 w0a w0l (IntKind.wrap .i64 (w6 + w10)) fun p9 =>
 S8.stn p9.1 p9.2 [(.int .i64 v6)] fun S10 =>
 callT call 80 [(.sl w0a w0l w0c), (.int .i64 w7), (.int .i64 w10), (.int .i64 w6)] S10 fun v12 S11 =>
 l1_1_1_1_1_0 w0a w0l w0c w6 w7 (IntKind.wrap .i64 (w10 - 1)) S11) (
 some (.tup [], S))

def b70_entry (call : CallA) (n : Nat) (l1_1_1_0_1_0 : Option Pos → Nat → Cap → Int → Int → Int → Int → AS → Option (AV × AS)) (x0a : Option Pos) (x0l : Nat) (x0c : Cap) (x1 : Int) (x2 : Int) (S : AS) : Option (AV × AS) :=
 l1_1_1_0_1_0 x0a x0l x0c x1 0 (IntKind.wrap .i64 (x2 - x1)) (IntKind.wrap .i64 (Int.tdiv (IntKind.wrap .i64 ((IntKind.wrap .i64 (x2 - x1)) - 1)) 2)) S

def r70_l1_1_1_0_1_0 (call : CallA) (n : Nat)  (m : Nat) (w0a : Option Pos) (w0l : Nat) (w0c : Cap) (w6 : Int) (w7 : Int) (w8 : Int) (w9 : Int) (S : AS) : Option (AV × AS) := loopN (evC E call n 70 (E.at 70 [1, 1, 1, 0, 1, 0, 0]) 0) [0, 6, 7, 8, 9] m [(0, (.sl w0a w0l w0c)), (6, (.int .i64 w6)), (7, (.int .i64 w7)), (8, (.int .i64 w8)), (9, (.int .i64 w9))] S (kBlk 0 (kSeq E call n 70 (E.at 70 [1, 1, 1, 1]) 0 (retK E (E.fn 70))))
def r70_j1_1_1_1 (call : CallA) (n : Nat)  (w0a : Option Pos) (w0l : Nat) (w0c : Cap) (w6 : Int) (w7 : Int) (w8 : Int) (S : AS) : Option (AV × AS) := evC E call n 70 (E.at 70 [1, 1, 1, 1]) 0 [(0, (.sl w0a w0l w0c)), (6, (.int .i64 w6)), (7, (.int .i64 w7)), (8, (.int .i64 w8))] S (retK E (E.fn 70))
def r70_l1_1_1_1_1_0 (call : CallA) (n : Nat)  (m : Nat) (w0a : Option Pos) (w0l : Nat) (w0c : Cap) (w6 : Int) (w7 : Int) (w10 : Int) (S : AS) : Option (AV × AS) := loopN (evC E call n 70 (E.at 70 [1, 1, 1, 1, 1, 0, 0]) 2) [0, 6, 7, 10] m [(0, (.sl w0a w0l w0c)), (6, (.int .i64 w6)), (7, (.int .i64 w7)), (10, (.int .i64 w10))] S (kBlk 2 (retK E (E.fn 70)))
theorem a70_l1_1_1_0_1_0 (call : CallA) (n : Nat)  (m : Nat) (w0a : Option Pos) (w0l : Nat) (w0c : Cap) (w6 : Int) (w7 : Int) (w8 : Int) (w9 : Int) (S : AS) : r70_l1_1_1_0_1_0 call n  (m + 1) w0a w0l w0c w6 w7 w8 w9 S = b70_l1_1_1_0_1_0 call n (r70_l1_1_1_0_1_0 call n  m) (r70_j1_1_1_1 call n ) w0a w0l w0c w6 w7 w8 w9 S := by kernel_rfl
theorem a70_j1_1_1_1 (call : CallA) (n : Nat)  (w0a : Option Pos) (w0l : Nat) (w0c : Cap) (w6 : Int) (w7 : Int) (w8 : Int) (S : AS) : r70_j1_1_1_1 call n  w0a w0l w0c w6 w7 w8 S = b70_j1_1_1_1 call n (r70_l1_1_1_1_1_0 call n  n) w0a w0l w0c w6 w7 w8 S := by kernel_rfl
theorem a70_l1_1_1_1_1_0 (call : CallA) (n : Nat)  (m : Nat) (w0a : Option Pos) (w0l : Nat) (w0c : Cap) (w6 : Int) (w7 : Int) (w10 : Int) (S : AS) : r70_l1_1_1_1_1_0 call n  (m + 1) w0a w0l w0c w6 w7 w10 S = b70_l1_1_1_1_1_0 call n (r70_l1_1_1_1_1_0 call n  m) w0a w0l w0c w6 w7 w10 S := by kernel_rfl
theorem a70_entry (call : CallA) (n : Nat) (x0a : Option Pos) (x0l : Nat) (x0c : Cap) (x1 : Int) (x2 : Int) (S : AS) : evC E call n 70 (E.at 70 []) 0 (enumT 0 [(.sl x0a x0l x0c), (.int .i64 x1), (.int .i64 x2)]) S (retK E (E.fn 70)) = b70_entry call n (r70_l1_1_1_0_1_0 call n  n) x0a x0l x0c x1 x2 S := by kernel_rfl
def J70_l1_1_1_1_1_0 (call : CallA) (n : Nat)  (m : Nat) : Option Pos → Nat → Cap → Int → Int → Int → AS → Option (AV × AS) := Nat.rec (motive := fun _ => Option Pos → Nat → Cap → Int → Int → Int → AS → Option (AV × AS)) (fun _ _ _ _ _ _ _ => none) (fun _ ih w0a w0l w0c w6 w7 w10 S => b70_l1_1_1_1_1_0 call n ih w0a w0l w0c w6 w7 w10 S) m
theorem J70_l1_1_1_1_1_0_succ (call : CallA) (n : Nat)  (m : Nat) (w0a : Option Pos) (w0l : Nat) (w0c : Cap) (w6 : Int) (w7 : Int) (w10 : Int) (S : AS) : J70_l1_1_1_1_1_0 call n  (m + 1) w0a w0l w0c w6 w7 w10 S = b70_l1_1_1_1_1_0 call n (J70_l1_1_1_1_1_0 call n  m) w0a w0l w0c w6 w7 w10 S := rfl
theorem h70_l1_1_1_1_1_0 (call : CallA) (n : Nat)  (m : Nat) : r70_l1_1_1_1_1_0 call n  m = J70_l1_1_1_1_1_0 call n  m := by
  induction m with
  | zero => rfl
  | succ m ih =>
    funext w0a w0l w0c w6 w7 w10 S
    rw [J70_l1_1_1_1_1_0_succ, a70_l1_1_1_1_1_0, ih]
def J70_j1_1_1_1 (call : CallA) (n : Nat)  (w0a : Option Pos) (w0l : Nat) (w0c : Cap) (w6 : Int) (w7 : Int) (w8 : Int) (S : AS) : Option (AV × AS) := b70_j1_1_1_1 call n (J70_l1_1_1_1_1_0 call n  n) w0a w0l w0c w6 w7 w8 S
theorem h70_j1_1_1_1 (call : CallA) (n : Nat)  : r70_j1_1_1_1 call n  = J70_j1_1_1_1 call n  := by
  funext w0a w0l w0c w6 w7 w8 S
  rw [J70_j1_1_1_1, a70_j1_1_1_1, h70_l1_1_1_1_1_0 call n  n]
def J70_l1_1_1_0_1_0 (call : CallA) (n : Nat)  (m : Nat) : Option Pos → Nat → Cap → Int → Int → Int → Int → AS → Option (AV × AS) := Nat.rec (motive := fun _ => Option Pos → Nat → Cap → Int → Int → Int → Int → AS → Option (AV × AS)) (fun _ _ _ _ _ _ _ _ => none) (fun _ ih w0a w0l w0c w6 w7 w8 w9 S => b70_l1_1_1_0_1_0 call n ih (J70_j1_1_1_1 call n ) w0a w0l w0c w6 w7 w8 w9 S) m
theorem J70_l1_1_1_0_1_0_succ (call : CallA) (n : Nat)  (m : Nat) (w0a : Option Pos) (w0l : Nat) (w0c : Cap) (w6 : Int) (w7 : Int) (w8 : Int) (w9 : Int) (S : AS) : J70_l1_1_1_0_1_0 call n  (m + 1) w0a w0l w0c w6 w7 w8 w9 S = b70_l1_1_1_0_1_0 call n (J70_l1_1_1_0_1_0 call n  m) (J70_j1_1_1_1 call n ) w0a w0l w0c w6 w7 w8 w9 S := rfl
theorem h70_l1_1_1_0_1_0 (call : CallA) (n : Nat)  (m : Nat) : r70_l1_1_1_0_1_0 call n  m = J70_l1_1_1_0_1_0 call n  m := by
  induction m with
  | zero => rfl
  | succ m ih =>
    funext w0a w0l w0c w6 w7 w8 w9 S
    rw [J70_l1_1_1_0_1_0_succ, a70_l1_1_1_0_1_0, h70_j1_1_1_1 call n , ih]
def J70 (call : CallA) (n : Nat) (x0a : Option Pos) (x0l : Nat) (x0c : Cap) (x1 : Int) (x2 : Int) (S : AS) : Option (AV × AS) := b70_entry call n (J70_l1_1_1_0_1_0 call n  n) x0a x0l x0c x1 x2 S
theorem run70 (o : Orc) (n : Nat) (args : List AV) (S : AS) (ho : o 70 args = none) : evF E o (n + 1) (.fn 70) args S = evC E (evF E o n) n 70 (E.at 70 []) 0 (enumT 0 args) S (retK E (E.fn 70)) := by
  rw [evF, ho]; kernel_rfl
theorem J70_eq (call : CallA) (n : Nat) (x0a : Option Pos) (x0l : Nat) (x0c : Cap) (x1 : Int) (x2 : Int) (S : AS) : evC E call n 70 (E.at 70 []) 0 (enumT 0 [(.sl x0a x0l x0c), (.int .i64 x1), (.int .i64 x2)]) S (retK E (E.fn 70)) = J70 call n x0a x0l x0c x1 x2 S := by
  rw [J70, a70_entry, h70_l1_1_1_0_1_0 call n  n]
theorem F70 {o : Orc} (n : Nat) (x0a : Option Pos) (x0l : Nat) (x0c : Cap) (x1 : Int) (x2 : Int) (S : AS) (ho : ∀ args, o 70 args = none) : evF E o (n + 1) (.fn 70) [(.sl x0a x0l x0c), (.int .i64 x1), (.int .i64 x2)] S = J70 (evF E o n) n x0a x0l x0c x1 x2 S := (run70 o n [(.sl x0a x0l x0c), (.int .i64 x1), (.int .i64 x2)] S (ho _)).trans (J70_eq _ _ x0a x0l x0c x1 x2 S)
def b72_j1_1_1_1_1_1_0_1_0_1 (call : CallA) (n : Nat) (j1_1_1_1_1_1_1 : Option Pos → Int → AS → Option (AV × AS)) (w0a : Option Pos) (w0l : Nat) (w0c : Cap) (w9 : Option Pos) (w10 : Int) (w11 : Int) (w12 : Int) (S : AS) : Option (AV × AS) :=
 callI .i64 call 84 [(.sl w0a w0l w0c), (.int .i64 w10), (.int .i64 w11), (.int .i64 w12), (.ptr w9)] S fun v10 S9 =>
 j1_1_1_1_1_1_1 w9 v10 S9

def b72_j1_1_1_1_1_1_1 (call : CallA) (n : Nat)  (w9 : Option Pos) (w11 : Int) (S : AS) : Option (AV × AS) :=
 gO w9 fun p11 =>
 ldI .i64 S p11.1 p11.2 fun v12 =>
 cond (v12 == 0) (
 some (.tup [(.int .i64 w11), (.int .i64 1)], S)) (
 cond (v12 == 12) (
 some (.tup [(.int .i64 w11), (.int .i64 2)], S)) (
 some (.tup [(.int .i64 w11), (.int .i64 0)], S)))

def b72_entry (call : CallA) (n : Nat) (j1_1_1_1_1_1_0_1_0_1 : Option Pos → Nat → Cap → Option Pos → Int → Int → Int → AS → Option (AV × AS)) (j1_1_1_1_1_1_1 : Option Pos → Int → AS → Option (AV × AS)) (x0a : Option Pos) (x0l : Nat) (x0c : Cap) (x1 : Int) (x2 : Int) (S : AS) : Option (AV × AS) :=
 newA S (.cells [(.int .i64 0)]) fun b1 S2 =>
 cond (decide ((IntKind.wrap .i64 (x2 - x1)) ≥ 8)) (
 cond (decide ((IntKind.wrap .i64 (x2 - x1)) ≥ 50)) (
 callI .i64 call 83 [(.sl x0a x0l x0c), (.int .i64 (IntKind.wrap .i64 (x1 + (IntKind.wrap .i64 ((IntKind.wrap .i64 (Int.tdiv (IntKind.wrap .i64 (x2 - x1)) 4)) * 1))))), (.ptr (some ((.rw b1), 0)))] S2 fun v4 S3 =>
 callI .i64 call 83 [(.sl x0a x0l x0c), (.int .i64 (IntKind.wrap .i64 (x1 + (IntKind.wrap .i64 ((IntKind.wrap .i64 (Int.tdiv (IntKind.wrap .i64 (x2 - x1)) 4)) * 2))))), (.ptr (some ((.rw b1), 0)))] S3 fun v6 S5 =>
 callI .i64 call 83 [(.sl x0a x0l x0c), (.int .i64 (IntKind.wrap .i64 (x1 + (IntKind.wrap .i64 ((IntKind.wrap .i64 (Int.tdiv (IntKind.wrap .i64 (x2 - x1)) 4)) * 3))))), (.ptr (some ((.rw b1), 0)))] S5 fun v8 S7 =>
 j1_1_1_1_1_1_0_1_0_1 x0a x0l x0c (some ((.rw b1), 0)) v4 v6 v8 S7) (
 j1_1_1_1_1_1_0_1_0_1 x0a x0l x0c (some ((.rw b1), 0)) (IntKind.wrap .i64 (x1 + (IntKind.wrap .i64 ((IntKind.wrap .i64 (Int.tdiv (IntKind.wrap .i64 (x2 - x1)) 4)) * 1)))) (IntKind.wrap .i64 (x1 + (IntKind.wrap .i64 ((IntKind.wrap .i64 (Int.tdiv (IntKind.wrap .i64 (x2 - x1)) 4)) * 2)))) (IntKind.wrap .i64 (x1 + (IntKind.wrap .i64 ((IntKind.wrap .i64 (Int.tdiv (IntKind.wrap .i64 (x2 - x1)) 4)) * 3)))) S2)) (
 j1_1_1_1_1_1_1 (some ((.rw b1), 0)) (IntKind.wrap .i64 (x1 + (IntKind.wrap .i64 ((IntKind.wrap .i64 (Int.tdiv (IntKind.wrap .i64 (x2 - x1)) 4)) * 2)))) S2)

def r72_j1_1_1_1_1_1_0_1_0_1 (call : CallA) (n : Nat)  (w0a : Option Pos) (w0l : Nat) (w0c : Cap) (w9 : Option Pos) (w10 : Int) (w11 : Int) (w12 : Int) (S : AS) : Option (AV × AS) := evC E call n 72 (E.at 72 [1, 1, 1, 1, 1, 1, 0, 1, 0, 1]) 0 [(0, (.sl w0a w0l w0c)), (9, (.ptr w9)), (10, (.int .i64 w10)), (11, (.int .i64 w11)), (12, (.int .i64 w12))] S (kSeq E call n 72 (E.at 72 [1, 1, 1, 1, 1, 1, 1]) 0 (retK E (E.fn 72)))
def r72_j1_1_1_1_1_1_1 (call : CallA) (n : Nat)  (w9 : Option Pos) (w11 : Int) (S : AS) : Option (AV × AS) := evC E call n 72 (E.at 72 [1, 1, 1, 1, 1, 1, 1]) 0 [(9, (.ptr w9)), (11, (.int .i64 w11))] S (retK E (E.fn 72))
theorem a72_j1_1_1_1_1_1_0_1_0_1 (call : CallA) (n : Nat)  (w0a : Option Pos) (w0l : Nat) (w0c : Cap) (w9 : Option Pos) (w10 : Int) (w11 : Int) (w12 : Int) (S : AS) : r72_j1_1_1_1_1_1_0_1_0_1 call n  w0a w0l w0c w9 w10 w11 w12 S = b72_j1_1_1_1_1_1_0_1_0_1 call n (r72_j1_1_1_1_1_1_1 call n ) w0a w0l w0c w9 w10 w11 w12 S := by kernel_rfl
theorem a72_j1_1_1_1_1_1_1 (call : CallA) (n : Nat)  (w9 : Option Pos) (w11 : Int) (S : AS) : r72_j1_1_1_1_1_1_1 call n  w9 w11 S = b72_j1_1_1_1_1_1_1 call n  w9 w11 S := by kernel_rfl
theorem a72_entry (call : CallA) (n : Nat) (x0a : Option Pos) (x0l : Nat) (x0c : Cap) (x1 : Int) (x2 : Int) (S : AS) : evC E call n 72 (E.at 72 []) 0 (enumT 0 [(.sl x0a x0l x0c), (.int .i64 x1), (.int .i64 x2)]) S (retK E (E.fn 72)) = b72_entry call n (r72_j1_1_1_1_1_1_0_1_0_1 call n ) (r72_j1_1_1_1_1_1_1 call n ) x0a x0l x0c x1 x2 S := by kernel_rfl
def J72_j1_1_1_1_1_1_1 (call : CallA) (n : Nat)  (w9 : Option Pos) (w11 : Int) (S : AS) : Option (AV × AS) := b72_j1_1_1_1_1_1_1 call n  w9 w11 S
theorem h72_j1_1_1_1_1_1_1 (call : CallA) (n : Nat)  : r72_j1_1_1_1_1_1_1 call n  = J72_j1_1_1_1_1_1_1 call n  := by
  funext w9 w11 S
  rw [J72_j1_1_1_1_1_1_1, a72_j1_1_1_1_1_1_1]
def J72_j1_1_1_1_1_1_0_1_0_1 (call : CallA) (n : Nat)  (w0a : Option Pos) (w0l : Nat) (w0c : Cap) (w9 : Option Pos) (w10 : Int) (w11 : Int) (w12 : Int) (S : AS) : Option (AV × AS) := b72_j1_1_1_1_1_1_0_1_0_1 call n (J72_j1_1_1_1_1_1_1 call n ) w0a w0l w0c w9 w10 w11 w12 S
theorem h72_j1_1_1_1_1_1_0_1_0_1 (call : CallA) (n : Nat)  : r72_j1_1_1_1_1_1_0_1_0_1 call n  = J72_j1_1_1_1_1_1_0_1_0_1 call n  := by
  funext w0a w0l w0c w9 w10 w11 w12 S
  rw [J72_j1_1_1_1_1_1_0_1_0_1, a72_j1_1_1_1_1_1_0_1_0_1, h72_j1_1_1_1_1_1_1 call n ]
def J72 (call : CallA) (n : Nat) (x0a : Option Pos) (x0l : Nat) (x0c : Cap) (x1 : Int) (x2 : Int) (S : AS) : Option (AV × AS) := b72_entry call n (J72_j1_1_1_1_1_1_0_1_0_1 call n ) (J72_j1_1_1_1_1_1_1 call n ) x0a x0l x0c x1 x2 S
theorem run72 (o : Orc) (n : Nat) (args : List AV) (S : AS) (ho : o 72 args = none) : evF E o (n + 1) (.fn 72) args S = evC E (evF E o n) n 72 (E.at 72 []) 0 (enumT 0 args) S (retK E (E.fn 72)) := by
  rw [evF, ho]; kernel_rfl
theorem J72_eq (call : CallA) (n : Nat) (x0a : Option Pos) (x0l : Nat) (x0c : Cap) (x1 : Int) (x2 : Int) (S : AS) : evC E call n 72 (E.at 72 []) 0 (enumT 0 [(.sl x0a x0l x0c), (.int .i64 x1), (.int .i64 x2)]) S (retK E (E.fn 72)) = J72 call n x0a x0l x0c x1 x2 S := by
  rw [J72, a72_entry, h72_j1_1_1_1_1_1_0_1_0_1 call n , h72_j1_1_1_1_1_1_1 call n ]
theorem F72 {o : Orc} (n : Nat) (x0a : Option Pos) (x0l : Nat) (x0c : Cap) (x1 : Int) (x2 : Int) (S : AS) (ho : ∀ args, o 72 args = none) : evF E o (n + 1) (.fn 72) [(.sl x0a x0l x0c), (.int .i64 x1), (.int .i64 x2)] S = J72 (evF E o n) n x0a x0l x0c x1 x2 S := (run72 o n [(.sl x0a x0l x0c), (.int .i64 x1), (.int .i64 x2)] S (ho _)).trans (J72_eq _ _ x0a x0l x0c x1 x2 S)
def b73_l1_1_0 (call : CallA) (n : Nat) (l1_1_0 : Option Pos → Nat → Cap → Int → Int → AS → Option (AV × AS)) (w0a : Option Pos) (w0l : Nat) (w0c : Cap) (w6 : Int) (w7 : Int) (S : AS) : Option (AV × AS) :=
 cond (decide (w6 < w7)) (
 ixSl 1 w0a w0l w7 fun p1 =>
 ldI .i64 S p1.1 p1.2 fun v2 =>
 ixSl 1 w0a w0l w6 fun p3 =>
 ldI .i64 S p3.1 p3.2 fun v4 =>
 ixSl 1 w0a w0l w6 fun p5 =>
 S.stn p5.1 p5.2 [(.int .i64 v2)] fun S6 =>
 ixSl 1 w0a w0l w7 fun p7 =>
 S6.stn p7.1 p7.2 [(.int .i64 v4)] fun S8 =>
 l1_1_0 w0a w0l w0c (IntKind.wrap .i64 (w6 + 1)) (IntKind.wrap .i64 (w7 - 1)) S8) (
 some (.tup [], S))

def b73_entry (call : CallA) (n : Nat) (l1_1_0 : Option Pos → Nat → Cap → Int → Int → AS → Option (AV × AS)) (x0a : Option Pos) (x0l : Nat) (x0c : Cap) (x1 : Int) (x2 : Int) (S : AS) : Option (AV × AS) :=
 l1_1_0 x0a x0l x0c x1 (IntKind.wrap .i64 (x2 - 1)) S

def r73_l1_1_0 (call : CallA) (n : Nat)  (m : Nat) (w0a : Option Pos) (w0l : Nat) (w0c : Cap) (w6 : Int) (w7 : Int) (S : AS) : Option (AV × AS) := loopN (evC E call n 73 (E.at 73 [1, 1, 0, 0]) 0) [0, 6, 7] m [(0, (.sl w0a w0l w0c)), (6, (.int .i64 w6)), (7, (.int .i64 w7))] S (kBlk 0 (retK E (E.fn 73)))
theorem a73_l1_1_0 (call : CallA) (n : Nat)  (m : Nat) (w0a : Option Pos) (w0l : Nat) (w0c : Cap) (w6 : Int) (w7 : Int) (S : AS) : r73_l1_1_0 call n  (m + 1) w0a w0l w0c w6 w7 S = b73_l1_1_0 call n (r73_l1_1_0 call n  m) w0a w0l w0c w6 w7 S := by kernel_rfl
theorem a73_entry (call : CallA) (n : Nat) (x0a : Option Pos) (x0l : Nat) (x0c : Cap) (x1 : Int) (x2 : Int) (S : AS) : evC E call n 73 (E.at 73 []) 0 (enumT 0 [(.sl x0a x0l x0c), (.int .i64 x1), (.int .i64 x2)]) S (retK E (E.fn 73)) = b73_entry call n (r73_l1_1_0 call n  n) x0a x0l x0c x1 x2 S := by kernel_rfl
def J73_l1_1_0 (call : CallA) (n : Nat)  (m : Nat) : Option Pos → Nat → Cap → Int → Int → AS → Option (AV × AS) := Nat.rec (motive := fun _ => Option Pos → Nat → Cap → Int → Int → AS → Option (AV × AS)) (fun _ _ _ _ _ _ => none) (fun _ ih w0a w0l w0c w6 w7 S => b73_l1_1_0 call n ih w0a w0l w0c w6 w7 S) m
theorem J73_l1_1_0_succ (call : CallA) (n : Nat)  (m : Nat) (w0a : Option Pos) (w0l : Nat) (w0c : Cap) (w6 : Int) (w7 : Int) (S : AS) : J73_l1_1_0 call n  (m + 1) w0a w0l w0c w6 w7 S = b73_l1_1_0 call n (J73_l1_1_0 call n  m) w0a w0l w0c w6 w7 S := rfl
theorem h73_l1_1_0 (call : CallA) (n : Nat)  (m : Nat) : r73_l1_1_0 call n  m = J73_l1_1_0 call n  m := by
  induction m with
  | zero => rfl
  | succ m ih =>
    funext w0a w0l w0c w6 w7 S
    rw [J73_l1_1_0_succ, a73_l1_1_0, ih]
def J73 (call : CallA) (n : Nat) (x0a : Option Pos) (x0l : Nat) (x0c : Cap) (x1 : Int) (x2 : Int) (S : AS) : Option (AV × AS) := b73_entry call n (J73_l1_1_0 call n  n) x0a x0l x0c x1 x2 S
theorem run73 (o : Orc) (n : Nat) (args : List AV) (S : AS) (ho : o 73 args = none) : evF E o (n + 1) (.fn 73) args S = evC E (evF E o n) n 73 (E.at 73 []) 0 (enumT 0 args) S (retK E (E.fn 73)) := by
  rw [evF, ho]; kernel_rfl
theorem J73_eq (call : CallA) (n : Nat) (x0a : Option Pos) (x0l : Nat) (x0c : Cap) (x1 : Int) (x2 : Int) (S : AS) : evC E call n 73 (E.at 73 []) 0 (enumT 0 [(.sl x0a x0l x0c), (.int .i64 x1), (.int .i64 x2)]) S (retK E (E.fn 73)) = J73 call n x0a x0l x0c x1 x2 S := by
  rw [J73, a73_entry, h73_l1_1_0 call n  n]
theorem F73 {o : Orc} (n : Nat) (x0a : Option Pos) (x0l : Nat) (x0c : Cap) (x1 : Int) (x2 : Int) (S : AS) (ho : ∀ args, o 73 args = none) : evF E o (n + 1) (.fn 73) [(.sl x0a x0l x0c), (.int .i64 x1), (.int .i64 x2)] S = J73 (evF E o n) n x0a x0l x0c x1 x2 S := (run73 o n [(.sl x0a x0l x0c), (.int .i64 x1), (.int .i64 x2)] S (ho _)).trans (J73_eq _ _ x0a x0l x0c x1 x2 S)
end
end Go.Al
