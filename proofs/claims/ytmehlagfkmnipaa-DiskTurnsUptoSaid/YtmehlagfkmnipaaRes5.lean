/- Plain readings of the functions, and that they are what the evaluator does: by program. -/
import Derived.Test.YtmehlagfkmnipaaGrRes
import Derived.Test.YtmehlagfkmnipaaENV
import Derived.KernelRfl
set_option maxRecDepth 100000
set_option linter.unusedVariables false
namespace Go.Dk
open Go.Gr
noncomputable section
def b53_l1_0_1_0 (call : CallA) (n : Nat) (j1_0_1_0_0_1_1 : Option Pos → Option Pos → Nat → Cap → Option Pos → Nat → Cap → Int → AS → Option (AV × AS)) (j1_1 : Option Pos → Option Pos → Nat → Cap → AS → Option (AV × AS)) (w0 : Option Pos) (w1a : Option Pos) (w1l : Nat) (w1c : Cap) (w4a : Option Pos) (w4l : Nat) (w4c : Cap) (w5 : Int) (S : AS) : Option (AV × AS) :=
 cond (decide (w5 < ((w1l : Nat) : Int))) (
 ixSl 1 w1a w1l w5 fun p7 =>
 ldI .i64 S p7.1 p7.2 fun v8 =>
 cond (decide (v8 ≥ 0)) (
 ixSl 1 w1a w1l w5 fun p9 =>
 ldI .i64 S p9.1 p9.2 fun v10 =>
 cond (decide (v10 < ((w4l : Nat) : Int))) (
 ixSl 1 w1a w1l w5 fun p11 =>
 ldI .i64 S p11.1 p11.2 fun v12 =>
 ixSl 1 w4a w4l v12 fun p13 =>
 S.stn p13.1 p13.2 [(.bool true)] fun S14 =>
 j1_0_1_0_0_1_1 w0 w1a w1l w1c w4a w4l w4c w5 S14) (
 j1_0_1_0_0_1_1 w0 w1a w1l w1c w4a w4l w4c w5 S)) (
 j1_0_1_0_0_1_1 w0 w1a w1l w1c w4a w4l w4c w5 S)) (
 j1_1 w0 w4a w4l w4c S)

def b53_j1_0_1_0_0_1_1 (call : CallA) (n : Nat) (l1_0_1_0 : Option Pos → Option Pos → Nat → Cap → Option Pos → Nat → Cap → Int → AS → Option (AV × AS)) (w0 : Option Pos) (w1a : Option Pos) (w1l : Nat) (w1c : Cap) (w4a : Option Pos) (w4l : Nat) (w4c : Cap) (w5 : Int) (S : AS) : Option (AV × AS) :=
 l1_0_1_0 w0 w1a w1l w1c w4a w4l w4c (IntKind.wrap .i64 (w5 + 1)) S

def b53_j1_1 (call : CallA) (n : Nat) (l1_1_0_1_0 : Option Pos → Option Pos → Nat → Cap → Int → AS → Option (AV × AS)) (w0 : Option Pos) (w4a : Option Pos) (w4l : Nat) (w4c : Cap) (S : AS) : Option (AV × AS) :=
 l1_1_0_1_0 w0 w4a w4l w4c 0 S

def b53_l1_1_0_1_0 (call : CallA) (n : Nat) (j1_1_0_1_0_0_1_1 : Option Pos → Option Pos → Nat → Cap → Int → AS → Option (AV × AS)) (j1_1_1 : Option Pos → AS → Option (AV × AS)) (w0 : Option Pos) (w4a : Option Pos) (w4l : Nat) (w4c : Cap) (w6 : Int) (S : AS) : Option (AV × AS) :=
 gO w0 fun p15 =>
 ldL S p15.1 (p15.2 + 2) fun v16a v16l v16c =>
 cond (decide (w6 < ((v16l : Nat) : Int))) (
 ixSl 1 w4a w4l w6 fun p17 =>
 ldB S p17.1 p17.2 fun v18 =>
 cond v18 (
 gO w0 fun p19 =>
 ldL S p19.1 (p19.2 + 2) fun v20a v20l v20c =>
 ixSl 2 v20a v20l w6 fun p21 =>
 S.ldn p21.1 p21.2 2 fun g22 =>
 callT call 61 [(.ptr w0), (.agg g22)] S fun v24 S23 =>
 j1_1_0_1_0_0_1_1 w0 w4a w4l w4c w6 S23) (
 j1_1_0_1_0_0_1_1 w0 w4a w4l w4c w6 S)) (
 j1_1_1 w0 S)

def b53_j1_1_0_1_0_0_1_1 (call : CallA) (n : Nat) (l1_1_0_1_0 : Option Pos → Option Pos → Nat → Cap → Int → AS → Option (AV × AS)) (w0 : Option Pos) (w4a : Option Pos) (w4l : Nat) (w4c : Cap) (w6 : Int) (S : AS) : Option (AV × AS) :=
 l1_1_0_1_0 w0 w4a w4l w4c (IntKind.wrap .i64 (w6 + 1)) S

def b53_j1_1_1 (call : CallA) (n : Nat)  (w0 : Option Pos) (S : AS) : Option (AV × AS) :=
 gO w0 fun p25 =>
 S.stn p25.1 (p25.2 + 2) [(.sl none 0 (.ex 0))] fun S26 =>
 some (.tup [], S26)

def b53_entry (call : CallA) (n : Nat) (l1_0_1_0 : Option Pos → Option Pos → Nat → Cap → Option Pos → Nat → Cap → Int → AS → Option (AV × AS)) (x0 : Option Pos) (x1a : Option Pos) (x1l : Nat) (x1c : Cap) (S : AS) : Option (AV × AS) :=
 gO x0 fun p1 =>
 ldL S p1.1 (p1.2 + 2) fun v2a v2l v2c =>
 mkSl 1 ((v2l : Nat) : Int) ((v2l : Nat) : Int) fun l5 c6 =>
 newA S (.cells (zeros c6 [(.bool false)])) fun b3 S4 =>
 l1_0_1_0 x0 x1a x1l x1c (some (.rw b3, 0)) l5 (.ex c6) 0 S4

def r53_l1_0_1_0 (call : CallA) (n : Nat)  (m : Nat) (w0 : Option Pos) (w1a : Option Pos) (w1l : Nat) (w1c : Cap) (w4a : Option Pos) (w4l : Nat) (w4c : Cap) (w5 : Int) (S : AS) : Option (AV × AS) := loopN (evC E call n 53 (E.at 53 [1, 0, 1, 0, 0]) 0) [0, 1, 4, 5] m [(0, (.ptr w0)), (1, (.sl w1a w1l w1c)), (4, (.sl w4a w4l w4c)), (5, (.int .i64 w5))] S (kBlk 0 (kSeq E call n 53 (E.at 53 [1, 1]) 0 (retK E (E.fn 53))))
def r53_j1_0_1_0_0_1_1 (call : CallA) (n : Nat) (m1_0_1_0 : Nat) (w0 : Option Pos) (w1a : Option Pos) (w1l : Nat) (w1c : Cap) (w4a : Option Pos) (w4l : Nat) (w4c : Cap) (w5 : Int) (S : AS) : Option (AV × AS) := evC E call n 53 (E.at 53 [1, 0, 1, 0, 0, 1, 1]) 0 [(0, (.ptr w0)), (1, (.sl w1a w1l w1c)), (4, (.sl w4a w4l w4c)), (5, (.int .i64 w5))] S (kLp (evC E call n 53 (E.at 53 [1, 0, 1, 0, 0]) 0) [0, 1, 4, 5] m1_0_1_0 (kBlk 0 (kSeq E call n 53 (E.at 53 [1, 1]) 0 (retK E (E.fn 53)))))
def r53_j1_1 (call : CallA) (n : Nat)  (w0 : Option Pos) (w4a : Option Pos) (w4l : Nat) (w4c : Cap) (S : AS) : Option (AV × AS) := evC E call n 53 (E.at 53 [1, 1]) 0 [(0, (.ptr w0)), (4, (.sl w4a w4l w4c))] S (retK E (E.fn 53))
def r53_l1_1_0_1_0 (call : CallA) (n : Nat)  (m : Nat) (w0 : Option Pos) (w4a : Option Pos) (w4l : Nat) (w4c : Cap) (w6 : Int) (S : AS) : Option (AV × AS) := loopN (evC E call n 53 (E.at 53 [1, 1, 0, 1, 0, 0]) 2) [0, 4, 6] m [(0, (.ptr w0)), (4, (.sl w4a w4l w4c)), (6, (.int .i64 w6))] S (kBlk 2 (kSeq E call n 53 (E.at 53 [1, 1, 1]) 0 (retK E (E.fn 53))))
def r53_j1_1_0_1_0_0_1_1 (call : CallA) (n : Nat) (m1_1_0_1_0 : Nat) (w0 : Option Pos) (w4a : Option Pos) (w4l : Nat) (w4c : Cap) (w6 : Int) (S : AS) : Option (AV × AS) := evC E call n 53 (E.at 53 [1, 1, 0, 1, 0, 0, 1, 1]) 2 [(0, (.ptr w0)), (4, (.sl w4a w4l w4c)), (6, (.int .i64 w6))] S (kLp (evC E call n 53 (E.at 53 [1, 1, 0, 1, 0, 0]) 2) [0, 4, 6] m1_1_0_1_0 (kBlk 2 (kSeq E call n 53 (E.at 53 [1, 1, 1]) 0 (retK E (E.fn 53)))))
def r53_j1_1_1 (call : CallA) (n : Nat)  (w0 : Option Pos) (S : AS) : Option (AV × AS) := evC E call n 53 (E.at 53 [1, 1, 1]) 0 [(0, (.ptr w0))] S (retK E (E.fn 53))
theorem a53_l1_0_1_0 (call : CallA) (n : Nat)  (m : Nat) (w0 : Option Pos) (w1a : Option Pos) (w1l : Nat) (w1c : Cap) (w4a : Option Pos) (w4l : Nat) (w4c : Cap) (w5 : Int) (S : AS) : r53_l1_0_1_0 call n  (m + 1) w0 w1a w1l w1c w4a w4l w4c w5 S = b53_l1_0_1_0 call n (r53_j1_0_1_0_0_1_1 call n m) (r53_j1_1 call n ) w0 w1a w1l w1c w4a w4l w4c w5 S := by kernel_rfl
theorem a53_j1_0_1_0_0_1_1 (call : CallA) (n : Nat) (m1_0_1_0 : Nat) (w0 : Option Pos) (w1a : Option Pos) (w1l : Nat) (w1c : Cap) (w4a : Option Pos) (w4l : Nat) (w4c : Cap) (w5 : Int) (S : AS) : r53_j1_0_1_0_0_1_1 call n m1_0_1_0 w0 w1a w1l w1c w4a w4l w4c w5 S = b53_j1_0_1_0_0_1_1 call n (r53_l1_0_1_0 call n  m1_0_1_0) w0 w1a w1l w1c w4a w4l w4c w5 S := by kernel_rfl
theorem a53_j1_1 (call : CallA) (n : Nat)  (w0 : Option Pos) (w4a : Option Pos) (w4l : Nat) (w4c : Cap) (S : AS) : r53_j1_1 call n  w0 w4a w4l w4c S = b53_j1_1 call n (r53_l1_1_0_1_0 call n  n) w0 w4a w4l w4c S := by kernel_rfl
theorem a53_l1_1_0_1_0 (call : CallA) (n : Nat)  (m : Nat) (w0 : Option Pos) (w4a : Option Pos) (w4l : Nat) (w4c : Cap) (w6 : Int) (S : AS) : r53_l1_1_0_1_0 call n  (m + 1) w0 w4a w4l w4c w6 S = b53_l1_1_0_1_0 call n (r53_j1_1_0_1_0_0_1_1 call n m) (r53_j1_1_1 call n ) w0 w4a w4l w4c w6 S := by kernel_rfl
theorem a53_j1_1_0_1_0_0_1_1 (call : CallA) (n : Nat) (m1_1_0_1_0 : Nat) (w0 : Option Pos) (w4a : Option Pos) (w4l : Nat) (w4c : Cap) (w6 : Int) (S : AS) : r53_j1_1_0_1_0_0_1_1 call n m1_1_0_1_0 w0 w4a w4l w4c w6 S = b53_j1_1_0_1_0_0_1_1 call n (r53_l1_1_0_1_0 call n  m1_1_0_1_0) w0 w4a w4l w4c w6 S := by kernel_rfl
theorem a53_j1_1_1 (call : CallA) (n : Nat)  (w0 : Option Pos) (S : AS) : r53_j1_1_1 call n  w0 S = b53_j1_1_1 call n  w0 S := by kernel_rfl
theorem a53_entry (call : CallA) (n : Nat) (x0 : Option Pos) (x1a : Option Pos) (x1l : Nat) (x1c : Cap) (S : AS) : evC E call n 53 (E.at 53 []) 0 (enumT 0 [(.ptr x0), (.sl x1a x1l x1c)]) S (retK E (E.fn 53)) = b53_entry call n (r53_l1_0_1_0 call n  n) x0 x1a x1l x1c S := by kernel_rfl
def J53_j1_0_1_0_0_1_1 (call : CallA) (n : Nat) (n1_0_1_0 : Option Pos → Option Pos → Nat → Cap → Option Pos → Nat → Cap → Int → AS → Option (AV × AS)) (w0 : Option Pos) (w1a : Option Pos) (w1l : Nat) (w1c : Cap) (w4a : Option Pos) (w4l : Nat) (w4c : Cap) (w5 : Int) (S : AS) : Option (AV × AS) := b53_j1_0_1_0_0_1_1 call n n1_0_1_0 w0 w1a w1l w1c w4a w4l w4c w5 S
theorem h53_j1_0_1_0_0_1_1 (call : CallA) (n : Nat) (m1_0_1_0 : Nat) : r53_j1_0_1_0_0_1_1 call n m1_0_1_0 = J53_j1_0_1_0_0_1_1 call n (r53_l1_0_1_0 call n  m1_0_1_0) := by
  funext w0 w1a w1l w1c w4a w4l w4c w5 S
  rw [J53_j1_0_1_0_0_1_1, a53_j1_0_1_0_0_1_1]
def J53_j1_1_0_1_0_0_1_1 (call : CallA) (n : Nat) (n1_1_0_1_0 : Option Pos → Option Pos → Nat → Cap → Int → AS → Option (AV × AS)) (w0 : Option Pos) (w4a : Option Pos) (w4l : Nat) (w4c : Cap) (w6 : Int) (S : AS) : Option (AV × AS) := b53_j1_1_0_1_0_0_1_1 call n n1_1_0_1_0 w0 w4a w4l w4c w6 S
theorem h53_j1_1_0_1_0_0_1_1 (call : CallA) (n : Nat) (m1_1_0_1_0 : Nat) : r53_j1_1_0_1_0_0_1_1 call n m1_1_0_1_0 = J53_j1_1_0_1_0_0_1_1 call n (r53_l1_1_0_1_0 call n  m1_1_0_1_0) := by
  funext w0 w4a w4l w4c w6 S
  rw [J53_j1_1_0_1_0_0_1_1, a53_j1_1_0_1_0_0_1_1]
def J53_j1_1_1 (call : CallA) (n : Nat)  (w0 : Option Pos) (S : AS) : Option (AV × AS) := b53_j1_1_1 call n  w0 S
theorem h53_j1_1_1 (call : CallA) (n : Nat)  : r53_j1_1_1 call n  = J53_j1_1_1 call n  := by
  funext w0 S
  rw [J53_j1_1_1, a53_j1_1_1]
def J53_l1_1_0_1_0 (call : CallA) (n : Nat)  (m : Nat) : Option Pos → Option Pos → Nat → Cap → Int → AS → Option (AV × AS) := Nat.rec (motive := fun _ => Option Pos → Option Pos → Nat → Cap → Int → AS → Option (AV × AS)) (fun _ _ _ _ _ _ => none) (fun _ ih w0 w4a w4l w4c w6 S => b53_l1_1_0_1_0 call n (J53_j1_1_0_1_0_0_1_1 call n ih) (J53_j1_1_1 call n ) w0 w4a w4l w4c w6 S) m
theorem J53_l1_1_0_1_0_succ (call : CallA) (n : Nat)  (m : Nat) (w0 : Option Pos) (w4a : Option Pos) (w4l : Nat) (w4c : Cap) (w6 : Int) (S : AS) : J53_l1_1_0_1_0 call n  (m + 1) w0 w4a w4l w4c w6 S = b53_l1_1_0_1_0 call n (J53_j1_1_0_1_0_0_1_1 call n (J53_l1_1_0_1_0 call n  m)) (J53_j1_1_1 call n ) w0 w4a w4l w4c w6 S := rfl
theorem h53_l1_1_0_1_0 (call : CallA) (n : Nat)  (m : Nat) : r53_l1_1_0_1_0 call n  m = J53_l1_1_0_1_0 call n  m := by
  induction m with
  | zero => rfl
  | succ m ih =>
    funext w0 w4a w4l w4c w6 S
    rw [J53_l1_1_0_1_0_succ, a53_l1_1_0_1_0, h53_j1_1_0_1_0_0_1_1 call n m, h53_j1_1_1 call n , ih]
def J53_j1_1 (call : CallA) (n : Nat)  (w0 : Option Pos) (w4a : Option Pos) (w4l : Nat) (w4c : Cap) (S : AS) : Option (AV × AS) := b53_j1_1 call n (J53_l1_1_0_1_0 call n  n) w0 w4a w4l w4c S
theorem h53_j1_1 (call : CallA) (n : Nat)  : r53_j1_1 call n  = J53_j1_1 call n  := by
  funext w0 w4a w4l w4c S
  rw [J53_j1_1, a53_j1_1, h53_l1_1_0_1_0 call n  n]
def J53_l1_0_1_0 (call : CallA) (n : Nat)  (m : Nat) : Option Pos → Option Pos → Nat → Cap → Option Pos → Nat → Cap → Int → AS → Option (AV × AS) := Nat.rec (motive := fun _ => Option Pos → Option Pos → Nat → Cap → Option Pos → Nat → Cap → Int → AS → Option (AV × AS)) (fun _ _ _ _ _ _ _ _ _ => none) (fun _ ih w0 w1a w1l w1c w4a w4l w4c w5 S => b53_l1_0_1_0 call n (J53_j1_0_1_0_0_1_1 call n ih) (J53_j1_1 call n ) w0 w1a w1l w1c w4a w4l w4c w5 S) m
theorem J53_l1_0_1_0_succ (call : CallA) (n : Nat)  (m : Nat) (w0 : Option Pos) (w1a : Option Pos) (w1l : Nat) (w1c : Cap) (w4a : Option Pos) (w4l : Nat) (w4c : Cap) (w5 : Int) (S : AS) : J53_l1_0_1_0 call n  (m + 1) w0 w1a w1l w1c w4a w4l w4c w5 S = b53_l1_0_1_0 call n (J53_j1_0_1_0_0_1_1 call n (J53_l1_0_1_0 call n  m)) (J53_j1_1 call n ) w0 w1a w1l w1c w4a w4l w4c w5 S := rfl
theorem h53_l1_0_1_0 (call : CallA) (n : Nat)  (m : Nat) : r53_l1_0_1_0 call n  m = J53_l1_0_1_0 call n  m := by
  induction m with
  | zero => rfl
  | succ m ih =>
    funext w0 w1a w1l w1c w4a w4l w4c w5 S
    rw [J53_l1_0_1_0_succ, a53_l1_0_1_0, h53_j1_0_1_0_0_1_1 call n m, h53_j1_1 call n , ih]
def J53 (call : CallA) (n : Nat) (x0 : Option Pos) (x1a : Option Pos) (x1l : Nat) (x1c : Cap) (S : AS) : Option (AV × AS) := b53_entry call n (J53_l1_0_1_0 call n  n) x0 x1a x1l x1c S
theorem run53 (o : Orc) (n : Nat) (args : List AV) (S : AS) (ho : o 53 args = none) : evF E o (n + 1) (.fn 53) args S = evC E (evF E o n) n 53 (E.at 53 []) 0 (enumT 0 args) S (retK E (E.fn 53)) := by
  rw [evF, ho]; kernel_rfl
theorem J53_eq (call : CallA) (n : Nat) (x0 : Option Pos) (x1a : Option Pos) (x1l : Nat) (x1c : Cap) (S : AS) : evC E call n 53 (E.at 53 []) 0 (enumT 0 [(.ptr x0), (.sl x1a x1l x1c)]) S (retK E (E.fn 53)) = J53 call n x0 x1a x1l x1c S := by
  rw [J53, a53_entry, h53_l1_0_1_0 call n  n]
theorem F53 {o : Orc} (n : Nat) (x0 : Option Pos) (x1a : Option Pos) (x1l : Nat) (x1c : Cap) (S : AS) (ho : ∀ args, o 53 args = none) : evF E o (n + 1) (.fn 53) [(.ptr x0), (.sl x1a x1l x1c)] S = J53 (evF E o n) n x0 x1a x1l x1c S := (run53 o n [(.ptr x0), (.sl x1a x1l x1c)] S (ho _)).trans (J53_eq _ _ x0 x1a x1l x1c S)
def b54_entry (call : CallA) (n : Nat)  (x0 : Option Pos) (S : AS) : Option (AV × AS) :=
 gO x0 fun p1 =>
 S.stn p1.1 (p1.2 + 3) [(.bool true)] fun S2 =>
 gO x0 fun p3 =>
 S2.stn p3.1 (p3.2 + 2) [(.sl none 0 (.ex 0))] fun S4 =>
 some (.tup [], S4)

theorem a54_entry (call : CallA) (n : Nat) (x0 : Option Pos) (S : AS) : evC E call n 54 (E.at 54 []) 0 (enumT 0 [(.ptr x0)]) S (retK E (E.fn 54)) = b54_entry call n  x0 S := by kernel_rfl
def J54 (call : CallA) (n : Nat) (x0 : Option Pos) (S : AS) : Option (AV × AS) := b54_entry call n  x0 S
theorem run54 (o : Orc) (n : Nat) (args : List AV) (S : AS) (ho : o 54 args = none) : evF E o (n + 1) (.fn 54) args S = evC E (evF E o n) n 54 (E.at 54 []) 0 (enumT 0 args) S (retK E (E.fn 54)) := by
  rw [evF, ho]; kernel_rfl
theorem J54_eq (call : CallA) (n : Nat) (x0 : Option Pos) (S : AS) : evC E call n 54 (E.at 54 []) 0 (enumT 0 [(.ptr x0)]) S (retK E (E.fn 54)) = J54 call n x0 S := by
  rw [J54, a54_entry]
theorem F54 {o : Orc} (n : Nat) (x0 : Option Pos) (S : AS) (ho : ∀ args, o 54 args = none) : evF E o (n + 1) (.fn 54) [(.ptr x0)] S = J54 (evF E o n) n x0 S := (run54 o n [(.ptr x0)] S (ho _)).trans (J54_eq _ _ x0 S)
def b55_l1_1_1_1_0 (call : CallA) (n : Nat) (l1_1_1_1_0 : Option Pos → List UInt8 → Int → AS → Option (AV × AS)) (w0 : Option Pos) (w2 : List UInt8) (w3 : Int) (S : AS) : Option (AV × AS) :=
 gO w0 fun p9 =>
 ldL S p9.1 p9.2 fun v10a v10l v10c =>
 cond (decide (w3 < ((v10l : Nat) : Int))) (
 gO w0 fun p11 =>
 ldL S p11.1 p11.2 fun v12a v12l v12c =>
 ixSl 1 v12a v12l w3 fun p13 =>
 S.stn p13.1 p13.2 [(.str w2)] fun S14 =>
 gO w0 fun p15 =>
 ldL S14 p15.1 (p15.2 + 1) fun v16a v16l v16c =>
 ixSl 1 v16a v16l w3 fun p17 =>
 S14.stn p17.1 p17.2 [(.int .i64 0)] fun S18 =>
 l1_1_1_1_0 w0 w2 (IntKind.wrap .i64 (w3 + 1)) S18) (
 some (.tup [], S))

def b55_entry (call : CallA) (n : Nat) (l1_1_1_1_0 : Option Pos → List UInt8 → Int → AS → Option (AV × AS)) (x0 : Option Pos) (S : AS) : Option (AV × AS) :=
 gO x0 fun p1 =>
 S.stn p1.1 (p1.2 + 3) [(.bool false)] fun S2 =>
 gO x0 fun p3 =>
 S2.stn p3.1 (p3.2 + 2) [(.sl none 0 (.ex 0))] fun S4 =>
 gO x0 fun p5 =>
 ldI .i64 S4 p5.1 (p5.2 + 5) fun v6 =>
 callS call 50 [(.int .i64 v6)] S4 fun v8 S7 =>
 l1_1_1_1_0 x0 v8 0 S7

def r55_l1_1_1_1_0 (call : CallA) (n : Nat)  (m : Nat) (w0 : Option Pos) (w2 : List UInt8) (w3 : Int) (S : AS) : Option (AV × AS) := loopN (evC E call n 55 (E.at 55 [1, 1, 1, 1, 0, 0]) 0) [0, 2, 3] m [(0, (.ptr w0)), (2, (.str w2)), (3, (.int .i64 w3))] S (kBlk 0 (retK E (E.fn 55)))
theorem a55_l1_1_1_1_0 (call : CallA) (n : Nat)  (m : Nat) (w0 : Option Pos) (w2 : List UInt8) (w3 : Int) (S : AS) : r55_l1_1_1_1_0 call n  (m + 1) w0 w2 w3 S = b55_l1_1_1_1_0 call n (r55_l1_1_1_1_0 call n  m) w0 w2 w3 S := by kernel_rfl
theorem a55_entry (call : CallA) (n : Nat) (x0 : Option Pos) (S : AS) : evC E call n 55 (E.at 55 []) 0 (enumT 0 [(.ptr x0)]) S (retK E (E.fn 55)) = b55_entry call n (r55_l1_1_1_1_0 call n  n) x0 S := by kernel_rfl
def J55_l1_1_1_1_0 (call : CallA) (n : Nat)  (m : Nat) : Option Pos → List UInt8 → Int → AS → Option (AV × AS) := Nat.rec (motive := fun _ => Option Pos → List UInt8 → Int → AS → Option (AV × AS)) (fun _ _ _ _ => none) (fun _ ih w0 w2 w3 S => b55_l1_1_1_1_0 call n ih w0 w2 w3 S) m
theorem J55_l1_1_1_1_0_succ (call : CallA) (n : Nat)  (m : Nat) (w0 : Option Pos) (w2 : List UInt8) (w3 : Int) (S : AS) : J55_l1_1_1_1_0 call n  (m + 1) w0 w2 w3 S = b55_l1_1_1_1_0 call n (J55_l1_1_1_1_0 call n  m) w0 w2 w3 S := rfl
theorem h55_l1_1_1_1_0 (call : CallA) (n : Nat)  (m : Nat) : r55_l1_1_1_1_0 call n  m = J55_l1_1_1_1_0 call n  m := by
  induction m with
  | zero => rfl
  | succ m ih =>
    funext w0 w2 w3 S
    rw [J55_l1_1_1_1_0_succ, a55_l1_1_1_1_0, ih]
def J55 (call : CallA) (n : Nat) (x0 : Option Pos) (S : AS) : Option (AV × AS) := b55_entry call n (J55_l1_1_1_1_0 call n  n) x0 S
theorem run55 (o : Orc) (n : Nat) (args : List AV) (S : AS) (ho : o 55 args = none) : evF E o (n + 1) (.fn 55) args S = evC E (evF E o n) n 55 (E.at 55 []) 0 (enumT 0 args) S (retK E (E.fn 55)) := by
  rw [evF, ho]; kernel_rfl
theorem J55_eq (call : CallA) (n : Nat) (x0 : Option Pos) (S : AS) : evC E call n 55 (E.at 55 []) 0 (enumT 0 [(.ptr x0)]) S (retK E (E.fn 55)) = J55 call n x0 S := by
  rw [J55, a55_entry, h55_l1_1_1_1_0 call n  n]
theorem F55 {o : Orc} (n : Nat) (x0 : Option Pos) (S : AS) (ho : ∀ args, o 55 args = none) : evF E o (n + 1) (.fn 55) [(.ptr x0)] S = J55 (evF E o n) n x0 S := (run55 o n [(.ptr x0)] S (ho _)).trans (J55_eq _ _ x0 S)
def b56_entry (call : CallA) (n : Nat)  (x0 : Option Pos) (x1 : Int) (S : AS) : Option (AV × AS) :=
 callI .i64 call 49 [(.ptr x0), (.int .i64 x1), (.bool true)] S fun v2 S1 =>
 cond (v2 == 0) (
 gO x0 fun p3 =>
 ldL S1 p3.1 (p3.2 + 1) fun v4a v4l v4c =>
 ixSl 1 v4a v4l x1 fun p5 =>
 S1.stn p5.1 p5.2 [(.int .i64 1)] fun S6 =>
 some ((.int .i64 v2), S6)) (
 some ((.int .i64 v2), S1))

theorem a56_entry (call : CallA) (n : Nat) (x0 : Option Pos) (x1 : Int) (S : AS) : evC E call n 56 (E.at 56 []) 0 (enumT 0 [(.ptr x0), (.int .i64 x1)]) S (retK E (E.fn 56)) = b56_entry call n  x0 x1 S := by kernel_rfl
def J56 (call : CallA) (n : Nat) (x0 : Option Pos) (x1 : Int) (S : AS) : Option (AV × AS) := b56_entry call n  x0 x1 S
theorem run56 (o : Orc) (n : Nat) (args : List AV) (S : AS) (ho : o 56 args = none) : evF E o (n + 1) (.fn 56) args S = evC E (evF E o n) n 56 (E.at 56 []) 0 (enumT 0 args) S (retK E (E.fn 56)) := by
  rw [evF, ho]; kernel_rfl
theorem J56_eq (call : CallA) (n : Nat) (x0 : Option Pos) (x1 : Int) (S : AS) : evC E call n 56 (E.at 56 []) 0 (enumT 0 [(.ptr x0), (.int .i64 x1)]) S (retK E (E.fn 56)) = J56 call n x0 x1 S := by
  rw [J56, a56_entry]
theorem F56 {o : Orc} (n : Nat) (x0 : Option Pos) (x1 : Int) (S : AS) (ho : ∀ args, o 56 args = none) : evF E o (n + 1) (.fn 56) [(.ptr x0), (.int .i64 x1)] S = J56 (evF E o n) n x0 x1 S := (run56 o n [(.ptr x0), (.int .i64 x1)] S (ho _)).trans (J56_eq _ _ x0 x1 S)
def b57_l1_1_0_1_0 (call : CallA) (n : Nat) (j1_1_0_1_0_0_1_1 : Option Pos → Option Pos → Nat → Cap → Int → AS → Option (AV × AS)) (w0 : Option Pos) (w3a : Option Pos) (w3l : Nat) (w3c : Cap) (w4 : Int) (S : AS) : Option (AV × AS) :=
 gO w0 fun p1 =>
 ldL S p1.1 (p1.2 + 1) fun v2a v2l v2c =>
 cond (decide (w4 < ((v2l : Nat) : Int))) (
 gO w0 fun p3 =>
 ldL S p3.1 (p3.2 + 1) fun v4a v4l v4c =>
 ixSl 1 v4a v4l w4 fun p5 =>
 ldI .i64 S p5.1 p5.2 fun v6 =>
 cond (v6 != 0) (
 newA S (.cells [(.int .i64 w4)]) fun b7 S8 =>
 appendA 1 8 S8 w3a w3l w3c 1 (firstA S8 1 1 (.sl (some (.rw b7, 0)) 1 (.ex 1))) fun v9a v9l v9c S10 =>
 j1_1_0_1_0_0_1_1 w0 v9a v9l v9c w4 S10) (
 j1_1_0_1_0_0_1_1 w0 w3a w3l w3c w4 S)) (
 some ((.sl w3a w3l w3c), S))

def b57_j1_1_0_1_0_0_1_1 (call : CallA) (n : Nat) (l1_1_0_1_0 : Option Pos → Option Pos → Nat → Cap → Int → AS → Option (AV × AS)) (w0 : Option Pos) (w3a : Option Pos) (w3l : Nat) (w3c : Cap) (w4 : Int) (S : AS) : Option (AV × AS) :=
 l1_1_0_1_0 w0 w3a w3l w3c (IntKind.wrap .i64 (w4 + 1)) S

def b57_entry (call : CallA) (n : Nat) (l1_1_0_1_0 : Option Pos → Option Pos → Nat → Cap → Int → AS → Option (AV × AS)) (x0 : Option Pos) (S : AS) : Option (AV × AS) :=
 l1_1_0_1_0 x0 none 0 (.ex 0) 0 S

def r57_l1_1_0_1_0 (call : CallA) (n : Nat)  (m : Nat) (w0 : Option Pos) (w3a : Option Pos) (w3l : Nat) (w3c : Cap) (w4 : Int) (S : AS) : Option (AV × AS) := loopN (evC E call n 57 (E.at 57 [1, 1, 0, 1, 0, 0]) 0) [0, 3, 4] m [(0, (.ptr w0)), (3, (.sl w3a w3l w3c)), (4, (.int .i64 w4))] S (kBlk 0 (kSeq E call n 57 (E.at 57 [1, 1, 1]) 0 (retK E (E.fn 57))))
def r57_j1_1_0_1_0_0_1_1 (call : CallA) (n : Nat) (m1_1_0_1_0 : Nat) (w0 : Option Pos) (w3a : Option Pos) (w3l : Nat) (w3c : Cap) (w4 : Int) (S : AS) : Option (AV × AS) := evC E call n 57 (E.at 57 [1, 1, 0, 1, 0, 0, 1, 1]) 0 [(0, (.ptr w0)), (3, (.sl w3a w3l w3c)), (4, (.int .i64 w4))] S (kLp (evC E call n 57 (E.at 57 [1, 1, 0, 1, 0, 0]) 0) [0, 3, 4] m1_1_0_1_0 (kBlk 0 (kSeq E call n 57 (E.at 57 [1, 1, 1]) 0 (retK E (E.fn 57)))))
theorem a57_l1_1_0_1_0 (call : CallA) (n : Nat)  (m : Nat) (w0 : Option Pos) (w3a : Option Pos) (w3l : Nat) (w3c : Cap) (w4 : Int) (S : AS) : r57_l1_1_0_1_0 call n  (m + 1) w0 w3a w3l w3c w4 S = b57_l1_1_0_1_0 call n (r57_j1_1_0_1_0_0_1_1 call n m) w0 w3a w3l w3c w4 S := by kernel_rfl
theorem a57_j1_1_0_1_0_0_1_1 (call : CallA) (n : Nat) (m1_1_0_1_0 : Nat) (w0 : Option Pos) (w3a : Option Pos) (w3l : Nat) (w3c : Cap) (w4 : Int) (S : AS) : r57_j1_1_0_1_0_0_1_1 call n m1_1_0_1_0 w0 w3a w3l w3c w4 S = b57_j1_1_0_1_0_0_1_1 call n (r57_l1_1_0_1_0 call n  m1_1_0_1_0) w0 w3a w3l w3c w4 S := by kernel_rfl
theorem a57_entry (call : CallA) (n : Nat) (x0 : Option Pos) (S : AS) : evC E call n 57 (E.at 57 []) 0 (enumT 0 [(.ptr x0)]) S (retK E (E.fn 57)) = b57_entry call n (r57_l1_1_0_1_0 call n  n) x0 S := by kernel_rfl
def J57_j1_1_0_1_0_0_1_1 (call : CallA) (n : Nat) (n1_1_0_1_0 : Option Pos → Option Pos → Nat → Cap → Int → AS → Option (AV × AS)) (w0 : Option Pos) (w3a : Option Pos) (w3l : Nat) (w3c : Cap) (w4 : Int) (S : AS) : Option (AV × AS) := b57_j1_1_0_1_0_0_1_1 call n n1_1_0_1_0 w0 w3a w3l w3c w4 S
theorem h57_j1_1_0_1_0_0_1_1 (call : CallA) (n : Nat) (m1_1_0_1_0 : Nat) : r57_j1_1_0_1_0_0_1_1 call n m1_1_0_1_0 = J57_j1_1_0_1_0_0_1_1 call n (r57_l1_1_0_1_0 call n  m1_1_0_1_0) := by
  funext w0 w3a w3l w3c w4 S
  rw [J57_j1_1_0_1_0_0_1_1, a57_j1_1_0_1_0_0_1_1]
def J57_l1_1_0_1_0 (call : CallA) (n : Nat)  (m : Nat) : Option Pos → Option Pos → Nat → Cap → Int → AS → Option (AV × AS) := Nat.rec (motive := fun _ => Option Pos → Option Pos → Nat → Cap → Int → AS → Option (AV × AS)) (fun _ _ _ _ _ _ => none) (fun _ ih w0 w3a w3l w3c w4 S => b57_l1_1_0_1_0 call n (J57_j1_1_0_1_0_0_1_1 call n ih) w0 w3a w3l w3c w4 S) m
theorem J57_l1_1_0_1_0_succ (call : CallA) (n : Nat)  (m : Nat) (w0 : Option Pos) (w3a : Option Pos) (w3l : Nat) (w3c : Cap) (w4 : Int) (S : AS) : J57_l1_1_0_1_0 call n  (m + 1) w0 w3a w3l w3c w4 S = b57_l1_1_0_1_0 call n (J57_j1_1_0_1_0_0_1_1 call n (J57_l1_1_0_1_0 call n  m)) w0 w3a w3l w3c w4 S := rfl
theorem h57_l1_1_0_1_0 (call : CallA) (n : Nat)  (m : Nat) : r57_l1_1_0_1_0 call n  m = J57_l1_1_0_1_0 call n  m := by
  induction m with
  | zero => rfl
  | succ m ih =>
    funext w0 w3a w3l w3c w4 S
    rw [J57_l1_1_0_1_0_succ, a57_l1_1_0_1_0, h57_j1_1_0_1_0_0_1_1 call n m, ih]
def J57 (call : CallA) (n : Nat) (x0 : Option Pos) (S : AS) : Option (AV × AS) := b57_entry call n (J57_l1_1_0_1_0 call n  n) x0 S
theorem run57 (o : Orc) (n : Nat) (args : List AV) (S : AS) (ho : o 57 args = none) : evF E o (n + 1) (.fn 57) args S = evC E (evF E o n) n 57 (E.at 57 []) 0 (enumT 0 args) S (retK E (E.fn 57)) := by
  rw [evF, ho]; kernel_rfl
theorem J57_eq (call : CallA) (n : Nat) (x0 : Option Pos) (S : AS) : evC E call n 57 (E.at 57 []) 0 (enumT 0 [(.ptr x0)]) S (retK E (E.fn 57)) = J57 call n x0 S := by
  rw [J57, a57_entry, h57_l1_1_0_1_0 call n  n]
theorem F57 {o : Orc} (n : Nat) (x0 : Option Pos) (S : AS) (ho : ∀ args, o 57 args = none) : evF E o (n + 1) (.fn 57) [(.ptr x0)] S = J57 (evF E o n) n x0 S := (run57 o n [(.ptr x0)] S (ho _)).trans (J57_eq _ _ x0 S)
def b58_l1_1_1_0_1_0 (call : CallA) (n : Nat) (l1_1_1_0_1_0 : Option Pos → Int → List UInt8 → Int → Int → AS → Option (AV × AS)) (j1_1_1_1 : Option Pos → Int → AS → Option (AV × AS)) (w0 : Option Pos) (w1 : Int) (w4 : List UInt8) (w5 : Int) (w6 : Int) (S : AS) : Option (AV × AS) :=
 cond (decide (w6 ≥ 0)) (
 gO w0 fun p7 =>
 ldL S p7.1 (p7.2 + 2) fun v8a v8l v8c =>
 ixSl 2 v8a v8l w6 fun p9 =>
 ldI .i64 S p9.1 p9.2 fun v10 =>
 cond (v10 == w1) (
 gO w0 fun p11 =>
 ldL S p11.1 (p11.2 + 2) fun v12a v12l v12c =>
 ixSl 2 v12a v12l w6 fun p13 =>
 ldS S p13.1 (p13.2 + 1) fun v14 =>
 some (.tup [(.str v14), (.int .i64 0)], S)) (
 l1_1_1_0_1_0 w0 w1 w4 w5 (IntKind.wrap .i64 (w6 - 1)) S)) (
 j1_1_1_1 w0 w1 S)

def b58_j1_1_1_1 (call : CallA) (n : Nat)  (w0 : Option Pos) (w1 : Int) (S : AS) : Option (AV × AS) :=
 gO w0 fun p15 =>
 ldL S p15.1 (p15.2 + 1) fun v16a v16l v16c =>
 ixSl 1 v16a v16l w1 fun p17 =>
 ldI .i64 S p17.1 p17.2 fun v18 =>
 cond (v18 == 1) (
 some (.tup [(.str ([])), (.int .i64 42)], S)) (
 gO w0 fun p19 =>
 ldL S p19.1 p19.2 fun v20a v20l v20c =>
 ixSl 1 v20a v20l w1 fun p21 =>
 ldS S p21.1 p21.2 fun v22 =>
 some (.tup [(.str v22), (.int .i64 0)], S))

def b58_entry (call : CallA) (n : Nat) (l1_1_1_0_1_0 : Option Pos → Int → List UInt8 → Int → Int → AS → Option (AV × AS)) (x0 : Option Pos) (x1 : Int) (S : AS) : Option (AV × AS) :=
 callB call 60 [(.ptr x0), (.int .i64 x1)] S fun v2 S1 =>
 cond (!v2) (
 some (.tup [(.str ([])), (.int .i64 2)], S1)) (
 gO x0 fun p3 =>
 ldB S1 p3.1 (p3.2 + 3) fun v4 =>
 cond v4 (
 some (.tup [(.str ([])), (.int .i64 41)], S1)) (
 gO x0 fun p5 =>
 ldL S1 p5.1 (p5.2 + 2) fun v6a v6l v6c =>
 l1_1_1_0_1_0 x0 x1 ([]) 0 (IntKind.wrap .i64 (((v6l : Nat) : Int) - 1)) S1))

def r58_l1_1_1_0_1_0 (call : CallA) (n : Nat)  (m : Nat) (w0 : Option Pos) (w1 : Int) (w4 : List UInt8) (w5 : Int) (w6 : Int) (S : AS) : Option (AV × AS) := loopN (evC E call n 58 (E.at 58 [1, 1, 1, 0, 1, 0, 0]) 0) [0, 1, 4, 5, 6] m [(0, (.ptr w0)), (1, (.int .i64 w1)), (4, (.str w4)), (5, (.int .i64 w5)), (6, (.int .i64 w6))] S (kBlk 0 (kSeq E call n 58 (E.at 58 [1, 1, 1, 1]) 0 (retK E (E.fn 58))))
def r58_j1_1_1_1 (call : CallA) (n : Nat)  (w0 : Option Pos) (w1 : Int) (S : AS) : Option (AV × AS) := evC E call n 58 (E.at 58 [1, 1, 1, 1]) 0 [(0, (.ptr w0)), (1, (.int .i64 w1))] S (retK E (E.fn 58))
theorem a58_l1_1_1_0_1_0 (call : CallA) (n : Nat)  (m : Nat) (w0 : Option Pos) (w1 : Int) (w4 : List UInt8) (w5 : Int) (w6 : Int) (S : AS) : r58_l1_1_1_0_1_0 call n  (m + 1) w0 w1 w4 w5 w6 S = b58_l1_1_1_0_1_0 call n (r58_l1_1_1_0_1_0 call n  m) (r58_j1_1_1_1 call n ) w0 w1 w4 w5 w6 S := by kernel_rfl
theorem a58_j1_1_1_1 (call : CallA) (n : Nat)  (w0 : Option Pos) (w1 : Int) (S : AS) : r58_j1_1_1_1 call n  w0 w1 S = b58_j1_1_1_1 call n  w0 w1 S := by kernel_rfl
theorem a58_entry (call : CallA) (n : Nat) (x0 : Option Pos) (x1 : Int) (S : AS) : evC E call n 58 (E.at 58 []) 0 (enumT 0 [(.ptr x0), (.int .i64 x1)]) S (retK E (E.fn 58)) = b58_entry call n (r58_l1_1_1_0_1_0 call n  n) x0 x1 S := by kernel_rfl
def J58_j1_1_1_1 (call : CallA) (n : Nat)  (w0 : Option Pos) (w1 : Int) (S : AS) : Option (AV × AS) := b58_j1_1_1_1 call n  w0 w1 S
theorem h58_j1_1_1_1 (call : CallA) (n : Nat)  : r58_j1_1_1_1 call n  = J58_j1_1_1_1 call n  := by
  funext w0 w1 S
  rw [J58_j1_1_1_1, a58_j1_1_1_1]
def J58_l1_1_1_0_1_0 (call : CallA) (n : Nat)  (m : Nat) : Option Pos → Int → List UInt8 → Int → Int → AS → Option (AV × AS) := Nat.rec (motive := fun _ => Option Pos → Int → List UInt8 → Int → Int → AS → Option (AV × AS)) (fun _ _ _ _ _ _ => none) (fun _ ih w0 w1 w4 w5 w6 S => b58_l1_1_1_0_1_0 call n ih (J58_j1_1_1_1 call n ) w0 w1 w4 w5 w6 S) m
theorem J58_l1_1_1_0_1_0_succ (call : CallA) (n : Nat)  (m : Nat) (w0 : Option Pos) (w1 : Int) (w4 : List UInt8) (w5 : Int) (w6 : Int) (S : AS) : J58_l1_1_1_0_1_0 call n  (m + 1) w0 w1 w4 w5 w6 S = b58_l1_1_1_0_1_0 call n (J58_l1_1_1_0_1_0 call n  m) (J58_j1_1_1_1 call n ) w0 w1 w4 w5 w6 S := rfl
theorem h58_l1_1_1_0_1_0 (call : CallA) (n : Nat)  (m : Nat) : r58_l1_1_1_0_1_0 call n  m = J58_l1_1_1_0_1_0 call n  m := by
  induction m with
  | zero => rfl
  | succ m ih =>
    funext w0 w1 w4 w5 w6 S
    rw [J58_l1_1_1_0_1_0_succ, a58_l1_1_1_0_1_0, h58_j1_1_1_1 call n , ih]
def J58 (call : CallA) (n : Nat) (x0 : Option Pos) (x1 : Int) (S : AS) : Option (AV × AS) := b58_entry call n (J58_l1_1_1_0_1_0 call n  n) x0 x1 S
theorem run58 (o : Orc) (n : Nat) (args : List AV) (S : AS) (ho : o 58 args = none) : evF E o (n + 1) (.fn 58) args S = evC E (evF E o n) n 58 (E.at 58 []) 0 (enumT 0 args) S (retK E (E.fn 58)) := by
  rw [evF, ho]; kernel_rfl
theorem J58_eq (call : CallA) (n : Nat) (x0 : Option Pos) (x1 : Int) (S : AS) : evC E call n 58 (E.at 58 []) 0 (enumT 0 [(.ptr x0), (.int .i64 x1)]) S (retK E (E.fn 58)) = J58 call n x0 x1 S := by
  rw [J58, a58_entry, h58_l1_1_1_0_1_0 call n  n]
theorem F58 {o : Orc} (n : Nat) (x0 : Option Pos) (x1 : Int) (S : AS) (ho : ∀ args, o 58 args = none) : evF E o (n + 1) (.fn 58) [(.ptr x0), (.int .i64 x1)] S = J58 (evF E o n) n x0 x1 S := (run58 o n [(.ptr x0), (.int .i64 x1)] S (ho _)).trans (J58_eq _ _ x0 x1 S)
def b59_l1_0 (call : CallA) (n : Nat) (l1_0 : AV → AV → Int → AS → Option (AV × AS)) (w0 : AV) (w1 : AV) (w3 : Int) (S : AS) : Option (AV × AS) :=
 cond (decide (w3 ≥ 0)) (
 gA w1 fun p3 =>
 ldL S p3.1 p3.2 fun v4a v4l v4c =>
 ixSl 2 v4a v4l w3 fun p5 =>
 S.ldn p5.1 p5.2 2 fun g6 =>
 callFB call w0 [(.int .i64 w3), (.agg g6)] S fun v8 S7 =>
 cond (!v8) (
 some (.tup [], S7)) (
 l1_0 w0 w1 (IntKind.wrap .i64 (w3 - 1)) S7)) (
 some (.tup [], S))

def b59_entry (call : CallA) (n : Nat) (l1_0 : AV → AV → Int → AS → Option (AV × AS)) (x0 : AV) (x1 : AV) (S : AS) : Option (AV × AS) :=
 gA x1 fun p1 =>
 ldL S p1.1 p1.2 fun v2a v2l v2c =>
 l1_0 x0 x1 (IntKind.wrap .i64 (((v2l : Nat) : Int) - 1)) S

def r59_l1_0 (call : CallA) (n : Nat)  (m : Nat) (w0 : AV) (w1 : AV) (w3 : Int) (S : AS) : Option (AV × AS) := loopN (evC E call n 59 (E.at 59 [1, 0, 0]) 0) [0, 1, 3] m [(0, w0), (1, w1), (3, (.int .i64 w3))] S (kBlk 0 (retK E (E.fn 59)))
theorem a59_l1_0 (call : CallA) (n : Nat)  (m : Nat) (w0 : AV) (w1 : AV) (w3 : Int) (S : AS) : r59_l1_0 call n  (m + 1) w0 w1 w3 S = b59_l1_0 call n (r59_l1_0 call n  m) w0 w1 w3 S := by kernel_rfl
theorem a59_entry (call : CallA) (n : Nat) (x0 : AV) (x1 : AV) (S : AS) : evC E call n 59 (E.at 59 []) 0 (enumT 0 [x0, x1]) S (retK E (E.fn 59)) = b59_entry call n (r59_l1_0 call n  n) x0 x1 S := by kernel_rfl
def J59_l1_0 (call : CallA) (n : Nat)  (m : Nat) : AV → AV → Int → AS → Option (AV × AS) := Nat.rec (motive := fun _ => AV → AV → Int → AS → Option (AV × AS)) (fun _ _ _ _ => none) (fun _ ih w0 w1 w3 S => b59_l1_0 call n ih w0 w1 w3 S) m
theorem J59_l1_0_succ (call : CallA) (n : Nat)  (m : Nat) (w0 : AV) (w1 : AV) (w3 : Int) (S : AS) : J59_l1_0 call n  (m + 1) w0 w1 w3 S = b59_l1_0 call n (J59_l1_0 call n  m) w0 w1 w3 S := rfl
theorem h59_l1_0 (call : CallA) (n : Nat)  (m : Nat) : r59_l1_0 call n  m = J59_l1_0 call n  m := by
  induction m with
  | zero => rfl
  | succ m ih =>
    funext w0 w1 w3 S
    rw [J59_l1_0_succ, a59_l1_0, ih]
def J59 (call : CallA) (n : Nat) (x0 : AV) (x1 : AV) (S : AS) : Option (AV × AS) := b59_entry call n (J59_l1_0 call n  n) x0 x1 S
theorem run59 (o : Orc) (n : Nat) (args : List AV) (S : AS) (ho : o 59 args = none) : evF E o (n + 1) (.fn 59) args S = evC E (evF E o n) n 59 (E.at 59 []) 0 (enumT 0 args) S (retK E (E.fn 59)) := by
  rw [evF, ho]; kernel_rfl
theorem J59_eq (call : CallA) (n : Nat) (x0 : AV) (x1 : AV) (S : AS) : evC E call n 59 (E.at 59 []) 0 (enumT 0 [x0, x1]) S (retK E (E.fn 59)) = J59 call n x0 x1 S := by
  rw [J59, a59_entry, h59_l1_0 call n  n]
theorem F59 {o : Orc} (n : Nat) (x0 : AV) (x1 : AV) (S : AS) (ho : ∀ args, o 59 args = none) : evF E o (n + 1) (.fn 59) [x0, x1] S = J59 (evF E o n) n x0 x1 S := (run59 o n [x0, x1] S (ho _)).trans (J59_eq _ _ x0 x1 S)
def b60_entry (call : CallA) (n : Nat)  (x0 : Option Pos) (x1 : Int) (S : AS) : Option (AV × AS) :=
 cond (decide (x1 ≥ 0)) (
 gO x0 fun p1 =>
 ldL S p1.1 p1.2 fun v2a v2l v2c =>
 some ((.bool (decide (x1 < ((v2l : Nat) : Int)))), S)) (
 some ((.bool false), S))

theorem a60_entry (call : CallA) (n : Nat) (x0 : Option Pos) (x1 : Int) (S : AS) : evC E call n 60 (E.at 60 []) 0 (enumT 0 [(.ptr x0), (.int .i64 x1)]) S (retK E (E.fn 60)) = b60_entry call n  x0 x1 S := by kernel_rfl
def J60 (call : CallA) (n : Nat) (x0 : Option Pos) (x1 : Int) (S : AS) : Option (AV × AS) := b60_entry call n  x0 x1 S
theorem run60 (o : Orc) (n : Nat) (args : List AV) (S : AS) (ho : o 60 args = none) : evF E o (n + 1) (.fn 60) args S = evC E (evF E o n) n 60 (E.at 60 []) 0 (enumT 0 args) S (retK E (E.fn 60)) := by
  rw [evF, ho]; kernel_rfl
theorem J60_eq (call : CallA) (n : Nat) (x0 : Option Pos) (x1 : Int) (S : AS) : evC E call n 60 (E.at 60 []) 0 (enumT 0 [(.ptr x0), (.int .i64 x1)]) S (retK E (E.fn 60)) = J60 call n x0 x1 S := by
  rw [J60, a60_entry]
theorem F60 {o : Orc} (n : Nat) (x0 : Option Pos) (x1 : Int) (S : AS) (ho : ∀ args, o 60 args = none) : evF E o (n + 1) (.fn 60) [(.ptr x0), (.int .i64 x1)] S = J60 (evF E o n) n x0 x1 S := (run60 o n [(.ptr x0), (.int .i64 x1)] S (ho _)).trans (J60_eq _ _ x0 x1 S)
def b61_entry (call : CallA) (n : Nat)  (x0 : Option Pos) (x1 : List AV) (S : AS) : Option (AV × AS) :=
 ifO (x1.length = 2) <|
 newA S (.cells x1) fun b1 S2 =>
 gO x0 fun p3 =>
 ldL S2 p3.1 p3.2 fun v4a v4l v4c =>
 ldI .i64 S2 (.rw b1) 0 fun v5 =>
 ldS S2 (.rw b1) 1 fun v6 =>
 ixSl 1 v4a v4l v5 fun p7 =>
 S2.stn p7.1 p7.2 [(.str v6)] fun S8 =>
 gO x0 fun p9 =>
 ldL S8 p9.1 (p9.2 + 1) fun v10a v10l v10c =>
 ldI .i64 S8 (.rw b1) 0 fun v11 =>
 ixSl 1 v10a v10l v11 fun p12 =>
 S8.stn p12.1 p12.2 [(.int .i64 0)] fun S13 =>
 gO x0 fun p14 =>
 ldI .i64 S13 p14.1 (p14.2 + 4) fun v15 =>
 gO x0 fun p16 =>
 S13.stn p16.1 (p16.2 + 4) [(.int .i64 (IntKind.wrap .i64 (v15 + 1)))] fun S17 =>
 some (.tup [], S17)

theorem a61_entry (call : CallA) (n : Nat) (x0 : Option Pos) (x1 : List AV) (S : AS) : evC E call n 61 (E.at 61 []) 0 (enumT 0 [(.ptr x0), (.agg x1)]) S (retK E (E.fn 61)) = b61_entry call n  x0 x1 S := by kernel_rfl
def J61 (call : CallA) (n : Nat) (x0 : Option Pos) (x1 : List AV) (S : AS) : Option (AV × AS) := b61_entry call n  x0 x1 S
theorem run61 (o : Orc) (n : Nat) (args : List AV) (S : AS) (ho : o 61 args = none) : evF E o (n + 1) (.fn 61) args S = evC E (evF E o n) n 61 (E.at 61 []) 0 (enumT 0 args) S (retK E (E.fn 61)) := by
  rw [evF, ho]; kernel_rfl
theorem J61_eq (call : CallA) (n : Nat) (x0 : Option Pos) (x1 : List AV) (S : AS) : evC E call n 61 (E.at 61 []) 0 (enumT 0 [(.ptr x0), (.agg x1)]) S (retK E (E.fn 61)) = J61 call n x0 x1 S := by
  rw [J61, a61_entry]
theorem F61 {o : Orc} (n : Nat) (x0 : Option Pos) (x1 : List AV) (S : AS) (ho : ∀ args, o 61 args = none) : evF E o (n + 1) (.fn 61) [(.ptr x0), (.agg x1)] S = J61 (evF E o n) n x0 x1 S := (run61 o n [(.ptr x0), (.agg x1)] S (ho _)).trans (J61_eq _ _ x0 x1 S)
end
end Go.Dk
