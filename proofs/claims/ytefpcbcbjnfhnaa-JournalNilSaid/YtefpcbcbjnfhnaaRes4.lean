/- Plain readings of the functions, and that they are what the evaluator does: by program. -/
import Derived.Test.YtefpcbcbjnfhnaaGrRes
import Derived.Test.YtefpcbcbjnfhnaaENV
import Derived.KernelRfl
set_option maxRecDepth 100000
set_option linter.unusedVariables false
namespace Go.Jn
open Go.Gr
noncomputable section
def b74_l1_0_1_0 (call : CallA) (n : Nat)  (l1_0_1_0 : Option Pos → Int → AS → Option (AV × AS)) (j1_1 : Option Pos → AS → Option (AV × AS)) (w0 : Option Pos) (w3 : Int) (S : AS) : Option (AV × AS) :=
 gO w0 fun p1 =>
 ldL S p1.1 (p1.2 + 1) fun v2a v2l v2c =>
 cond (decide (w3 < ((v2l : Nat) : Int))) (
 gO w0 fun p3 =>
 ldL S p3.1 p3.2 fun v4a v4l v4c =>
 gO w0 fun p5 =>
 ldL S p5.1 (p5.2 + 1) fun v6a v6l v6c =>
 ixSl 2 v6a v6l w3 fun p7 =>
 ldI .i64 S p7.1 p7.2 fun v8 =>
 gO w0 fun p9 =>
 ldL S p9.1 (p9.2 + 1) fun v10a v10l v10c =>
 ixSl 2 v10a v10l w3 fun p11 =>
 ldS S p11.1 (p11.2 + 1) fun v12 =>
 ixSl 1 v4a v4l v8 fun p13 =>
 S.stn p13.1 p13.2 [(.str v12)] fun S14 =>
 l1_0_1_0 w0 (IntKind.wrap .i64 (w3 + 1)) S14) (
 j1_1 w0 S)

def b74_j1_1 (call : CallA) (n : Nat)   (w0 : Option Pos) (S : AS) : Option (AV × AS) :=
 gO w0 fun p15 =>
 S.stn p15.1 (p15.2 + 1) [(.sl none 0 (.ex 0))] fun S16 =>
 some ((.int .i64 0), S16)

def b74_entry (call : CallA) (n : Nat)  (l1_0_1_0 : Option Pos → Int → AS → Option (AV × AS)) (x0 : Option Pos) (S : AS) : Option (AV × AS) :=
 l1_0_1_0 x0 0 S

def r74_l1_0_1_0 (call : CallA) (n : Nat)  (m : Nat) (w0 : Option Pos) (w3 : Int) (S : AS) : Option (AV × AS) := loopN (evC E call n 74 (E.at 74 [1, 0, 1, 0, 0]) 0) [0, 3] m [(0, (.ptr w0)), (3, (.int .i64 w3))] S (kBlk 0 (kSeq E call n 74 (E.at 74 [1, 1]) 0 (retK E (E.fn 74))))
def r74_j1_1 (call : CallA) (n : Nat)  (w0 : Option Pos) (S : AS) : Option (AV × AS) := evC E call n 74 (E.at 74 [1, 1]) 0 [(0, (.ptr w0))] S (retK E (E.fn 74))
theorem a74_l1_0_1_0 (call : CallA) (n : Nat)  (m : Nat) (w0 : Option Pos) (w3 : Int) (S : AS) : r74_l1_0_1_0 call n  (m + 1) w0 w3 S = b74_l1_0_1_0 call n (r74_l1_0_1_0 call n  m) (r74_j1_1 call n ) w0 w3 S := by kernel_rfl
theorem a74_j1_1 (call : CallA) (n : Nat)  (w0 : Option Pos) (S : AS) : r74_j1_1 call n  w0 S = b74_j1_1 call n  w0 S := by kernel_rfl
theorem a74_entry (call : CallA) (n : Nat) (x0 : Option Pos) (S : AS) : evC E call n 74 (E.at 74 []) 0 (enumT 0 [(.ptr x0)]) S (retK E (E.fn 74)) = b74_entry call n (r74_l1_0_1_0 call n  n) x0 S := by kernel_rfl
def J74_j1_1 (call : CallA) (n : Nat)  (w0 : Option Pos) (S : AS) : Option (AV × AS) := b74_j1_1 call n  w0 S
theorem h74_j1_1 (call : CallA) (n : Nat)  : r74_j1_1 call n  = J74_j1_1 call n  := by
  funext w0 S
  rw [J74_j1_1, a74_j1_1]
def J74_l1_0_1_0 (call : CallA) (n : Nat)  (m : Nat) : Option Pos → Int → AS → Option (AV × AS) := Nat.rec (motive := fun _ => Option Pos → Int → AS → Option (AV × AS)) (fun _ _ _ => none) (fun mK ih w0 w3 S => b74_l1_0_1_0 call n ih (J74_j1_1 call n ) w0 w3 S) m
theorem J74_l1_0_1_0_succ (call : CallA) (n : Nat)  (m : Nat) (w0 : Option Pos) (w3 : Int) (S : AS) : J74_l1_0_1_0 call n  (m + 1) w0 w3 S = b74_l1_0_1_0 call n (J74_l1_0_1_0 call n  m) (J74_j1_1 call n ) w0 w3 S := rfl
theorem h74_l1_0_1_0 (call : CallA) (n : Nat)  (m : Nat) : r74_l1_0_1_0 call n  m = J74_l1_0_1_0 call n  m := by
  induction m with
  | zero => rfl
  | succ m ih =>
    funext w0 w3 S
    rw [J74_l1_0_1_0_succ, a74_l1_0_1_0, h74_j1_1 call n , ih]
def J74 (call : CallA) (n : Nat) (x0 : Option Pos) (S : AS) : Option (AV × AS) := b74_entry call n (J74_l1_0_1_0 call n  n) x0 S
theorem run74 (o : Orc) (n : Nat) (args : List AV) (S : AS) (ho : o 74 args = none) : evF E o (n + 1) (.fn 74) args S = evC E (evF E o n) n 74 (E.at 74 []) 0 (enumT 0 args) S (retK E (E.fn 74)) := by
  rw [evF, ho]; kernel_rfl
theorem J74_eq (call : CallA) (n : Nat) (x0 : Option Pos) (S : AS) : evC E call n 74 (E.at 74 []) 0 (enumT 0 [(.ptr x0)]) S (retK E (E.fn 74)) = J74 call n x0 S := by
  rw [J74, a74_entry, h74_l1_0_1_0 call n  n]
theorem F74 {o : Orc} (n : Nat) (x0 : Option Pos) (S : AS) (ho : ∀ args, o 74 args = none) : evF E o (n + 1) (.fn 74) [(.ptr x0)] S = J74 (evF E o n) n x0 S := (run74 o n [(.ptr x0)] S (ho _)).trans (J74_eq _ _ x0 S)
def b75_entry (call : CallA) (n : Nat)   (x0 : Option Pos) (S : AS) : Option (AV × AS) :=
 gO x0 fun p1 =>
 ldL S p1.1 p1.2 fun v2a v2l v2c =>
 some ((.int .i64 ((v2l : Nat) : Int)), S)

theorem a75_entry (call : CallA) (n : Nat) (x0 : Option Pos) (S : AS) : evC E call n 75 (E.at 75 []) 0 (enumT 0 [(.ptr x0)]) S (retK E (E.fn 75)) = b75_entry call n  x0 S := by kernel_rfl
def J75 (call : CallA) (n : Nat) (x0 : Option Pos) (S : AS) : Option (AV × AS) := b75_entry call n  x0 S
theorem run75 (o : Orc) (n : Nat) (args : List AV) (S : AS) (ho : o 75 args = none) : evF E o (n + 1) (.fn 75) args S = evC E (evF E o n) n 75 (E.at 75 []) 0 (enumT 0 args) S (retK E (E.fn 75)) := by
  rw [evF, ho]; kernel_rfl
theorem J75_eq (call : CallA) (n : Nat) (x0 : Option Pos) (S : AS) : evC E call n 75 (E.at 75 []) 0 (enumT 0 [(.ptr x0)]) S (retK E (E.fn 75)) = J75 call n x0 S := by
  rw [J75, a75_entry]
theorem F75 {o : Orc} (n : Nat) (x0 : Option Pos) (S : AS) (ho : ∀ args, o 75 args = none) : evF E o (n + 1) (.fn 75) [(.ptr x0)] S = J75 (evF E o n) n x0 S := (run75 o n [(.ptr x0)] S (ho _)).trans (J75_eq _ _ x0 S)
def b76_l1_1_0_1_0 (call : CallA) (n : Nat)  (l1_1_0_1_0 : Option Pos → Int → Option Pos → Nat → Cap → Int → Int → AS → Option (AV × AS)) (j1_1_1 : Option Pos → Int → AS → Option (AV × AS)) (w0 : Option Pos) (w1 : Int) (w4a : Option Pos) (w4l : Nat) (w4c : Cap) (w5 : Int) (w6 : Int) (S : AS) : Option (AV × AS) :=
 cond (decide (w6 ≥ 0)) (
 gO w0 fun p5 =>
 ldL S p5.1 (p5.2 + 1) fun v6a v6l v6c =>
 ixSl 2 v6a v6l w6 fun p7 =>
 ldI .i64 S p7.1 p7.2 fun v8 =>
 cond (v8 == w1) (
 gO w0 fun p9 =>
 ldL S p9.1 (p9.2 + 1) fun v10a v10l v10c =>
 ixSl 2 v10a v10l w6 fun p11 =>
 ldS S p11.1 (p11.2 + 1) fun v12 =>
 ifO (v12.length ≤ pow46) <|
 newA S (.cells (ofBytes v12)) fun b13 S14 =>
 some (.tup [(.sl (some (.rw b13, 0)) v12.length (.op 1 v12.length)), (.int .i64 0)], S14)) (
 l1_1_0_1_0 w0 w1 w4a w4l w4c w5 (IntKind.wrap .i64 (w6 - 1)) S)) (
 j1_1_1 w0 w1 S)

def b76_j1_1_1 (call : CallA) (n : Nat)   (w0 : Option Pos) (w1 : Int) (S : AS) : Option (AV × AS) :=
 gO w0 fun p15 =>
 ldL S p15.1 p15.2 fun v16a v16l v16c =>
 ixSl 1 v16a v16l w1 fun p17 =>
 ldS S p17.1 p17.2 fun v18 =>
 ifO (v18.length ≤ pow46) <|
 newA S (.cells (ofBytes v18)) fun b19 S20 =>
 some (.tup [(.sl (some (.rw b19, 0)) v18.length (.op 1 v18.length)), (.int .i64 0)], S20)

def b76_entry (call : CallA) (n : Nat)  (l1_1_0_1_0 : Option Pos → Int → Option Pos → Nat → Cap → Int → Int → AS → Option (AV × AS)) (x0 : Option Pos) (x1 : Int) (S : AS) : Option (AV × AS) :=
 cond (decide (x1 < 0)) (
 some (.tup [(.sl none 0 (.ex 0)), (.int .i64 2)], S)) (
 gO x0 fun p1 =>
 ldL S p1.1 p1.2 fun v2a v2l v2c =>
 cond (decide (x1 ≥ ((v2l : Nat) : Int))) (
 some (.tup [(.sl none 0 (.ex 0)), (.int .i64 2)], S)) (
 gO x0 fun p3 =>
 ldL S p3.1 (p3.2 + 1) fun v4a v4l v4c =>
 l1_1_0_1_0 x0 x1 none 0 (.ex 0) 0 (IntKind.wrap .i64 (((v4l : Nat) : Int) - 1)) S))

def r76_l1_1_0_1_0 (call : CallA) (n : Nat)  (m : Nat) (w0 : Option Pos) (w1 : Int) (w4a : Option Pos) (w4l : Nat) (w4c : Cap) (w5 : Int) (w6 : Int) (S : AS) : Option (AV × AS) := loopN (evC E call n 76 (E.at 76 [1, 1, 0, 1, 0, 0]) 0) [0, 1, 4, 5, 6] m [(0, (.ptr w0)), (1, (.int .i64 w1)), (4, (.sl w4a w4l w4c)), (5, (.int .i64 w5)), (6, (.int .i64 w6))] S (kBlk 0 (kSeq E call n 76 (E.at 76 [1, 1, 1]) 0 (retK E (E.fn 76))))
def r76_j1_1_1 (call : CallA) (n : Nat)  (w0 : Option Pos) (w1 : Int) (S : AS) : Option (AV × AS) := evC E call n 76 (E.at 76 [1, 1, 1]) 0 [(0, (.ptr w0)), (1, (.int .i64 w1))] S (retK E (E.fn 76))
theorem a76_l1_1_0_1_0 (call : CallA) (n : Nat)  (m : Nat) (w0 : Option Pos) (w1 : Int) (w4a : Option Pos) (w4l : Nat) (w4c : Cap) (w5 : Int) (w6 : Int) (S : AS) : r76_l1_1_0_1_0 call n  (m + 1) w0 w1 w4a w4l w4c w5 w6 S = b76_l1_1_0_1_0 call n (r76_l1_1_0_1_0 call n  m) (r76_j1_1_1 call n ) w0 w1 w4a w4l w4c w5 w6 S := by kernel_rfl
theorem a76_j1_1_1 (call : CallA) (n : Nat)  (w0 : Option Pos) (w1 : Int) (S : AS) : r76_j1_1_1 call n  w0 w1 S = b76_j1_1_1 call n  w0 w1 S := by kernel_rfl
theorem a76_entry (call : CallA) (n : Nat) (x0 : Option Pos) (x1 : Int) (S : AS) : evC E call n 76 (E.at 76 []) 0 (enumT 0 [(.ptr x0), (.int .i64 x1)]) S (retK E (E.fn 76)) = b76_entry call n (r76_l1_1_0_1_0 call n  n) x0 x1 S := by kernel_rfl
def J76_j1_1_1 (call : CallA) (n : Nat)  (w0 : Option Pos) (w1 : Int) (S : AS) : Option (AV × AS) := b76_j1_1_1 call n  w0 w1 S
theorem h76_j1_1_1 (call : CallA) (n : Nat)  : r76_j1_1_1 call n  = J76_j1_1_1 call n  := by
  funext w0 w1 S
  rw [J76_j1_1_1, a76_j1_1_1]
def J76_l1_1_0_1_0 (call : CallA) (n : Nat)  (m : Nat) : Option Pos → Int → Option Pos → Nat → Cap → Int → Int → AS → Option (AV × AS) := Nat.rec (motive := fun _ => Option Pos → Int → Option Pos → Nat → Cap → Int → Int → AS → Option (AV × AS)) (fun _ _ _ _ _ _ _ _ => none) (fun mK ih w0 w1 w4a w4l w4c w5 w6 S => b76_l1_1_0_1_0 call n ih (J76_j1_1_1 call n ) w0 w1 w4a w4l w4c w5 w6 S) m
theorem J76_l1_1_0_1_0_succ (call : CallA) (n : Nat)  (m : Nat) (w0 : Option Pos) (w1 : Int) (w4a : Option Pos) (w4l : Nat) (w4c : Cap) (w5 : Int) (w6 : Int) (S : AS) : J76_l1_1_0_1_0 call n  (m + 1) w0 w1 w4a w4l w4c w5 w6 S = b76_l1_1_0_1_0 call n (J76_l1_1_0_1_0 call n  m) (J76_j1_1_1 call n ) w0 w1 w4a w4l w4c w5 w6 S := rfl
theorem h76_l1_1_0_1_0 (call : CallA) (n : Nat)  (m : Nat) : r76_l1_1_0_1_0 call n  m = J76_l1_1_0_1_0 call n  m := by
  induction m with
  | zero => rfl
  | succ m ih =>
    funext w0 w1 w4a w4l w4c w5 w6 S
    rw [J76_l1_1_0_1_0_succ, a76_l1_1_0_1_0, h76_j1_1_1 call n , ih]
def J76 (call : CallA) (n : Nat) (x0 : Option Pos) (x1 : Int) (S : AS) : Option (AV × AS) := b76_entry call n (J76_l1_1_0_1_0 call n  n) x0 x1 S
theorem run76 (o : Orc) (n : Nat) (args : List AV) (S : AS) (ho : o 76 args = none) : evF E o (n + 1) (.fn 76) args S = evC E (evF E o n) n 76 (E.at 76 []) 0 (enumT 0 args) S (retK E (E.fn 76)) := by
  rw [evF, ho]; kernel_rfl
theorem J76_eq (call : CallA) (n : Nat) (x0 : Option Pos) (x1 : Int) (S : AS) : evC E call n 76 (E.at 76 []) 0 (enumT 0 [(.ptr x0), (.int .i64 x1)]) S (retK E (E.fn 76)) = J76 call n x0 x1 S := by
  rw [J76, a76_entry, h76_l1_1_0_1_0 call n  n]
theorem F76 {o : Orc} (n : Nat) (x0 : Option Pos) (x1 : Int) (S : AS) (ho : ∀ args, o 76 args = none) : evF E o (n + 1) (.fn 76) [(.ptr x0), (.int .i64 x1)] S = J76 (evF E o n) n x0 x1 S := (run76 o n [(.ptr x0), (.int .i64 x1)] S (ho _)).trans (J76_eq _ _ x0 x1 S)
def b77_j1_1_1_1 (call : CallA) (n : Nat)   (w0 : Option Pos) (w1 : Int) (w2a : Option Pos) (w2l : Nat) (w2c : Cap) (S : AS) : Option (AV × AS) :=
 drawA S 14 fun b13 S14 =>
 gO w0 fun p15 =>
 ldL S14 p15.1 (p15.2 + 1) fun v16a v16l v16c =>
 bytesStr S14 w2a w2l fun s17 =>
 layA S14 (b13 + 9) (.cells [(.int .i64 w1), (.str s17)]) fun S18 =>
 appendA 2 24 S18 v16a v16l v16c 1 (firstA S18 2 1 (.sl (some (.rw (b13 + 9), 0)) 1 (.ex 1))) fun v19a v19l v19c S20 =>
 gO w0 fun p21 =>
 S20.stn p21.1 (p21.2 + 1) [(.sl v19a v19l v19c)] fun S22 =>
 some ((.int .i64 0), S22)

def b77_entry (call : CallA) (n : Nat)  (j1_1_1_1 : Option Pos → Int → Option Pos → Nat → Cap → AS → Option (AV × AS)) (x0 : Option Pos) (x1 : Int) (x2a : Option Pos) (x2l : Nat) (x2c : Cap) (S : AS) : Option (AV × AS) :=
 cond (decide (x1 < 0)) (
 some ((.int .i64 2), S)) (
 gO x0 fun p1 =>
 ldL S p1.1 p1.2 fun v2a v2l v2c =>
 cond (decide (x1 ≥ ((v2l : Nat) : Int))) (
 some ((.int .i64 2), S)) (
 cond (((x2l : Nat) : Int) != 384) (
 some ((.int .i64 2), S)) (
 gO x0 fun p3 =>
 ldI .i64 S p3.1 (p3.2 + 2) fun v4 =>
 cond (v4 == 0) (
 gO x0 fun p5 =>
 S.stn p5.1 (p5.2 + 2) [(.int .i64 (-1))] fun S6 =>
 some ((.int .i64 61), S6)) (
 gO x0 fun p7 =>
 ldI .i64 S p7.1 (p7.2 + 2) fun v8 =>
 cond (decide (v8 > 0)) (
 gO x0 fun p9 =>
 ldI .i64 S p9.1 (p9.2 + 2) fun v10 =>
 gO x0 fun p11 =>
 S.stn p11.1 (p11.2 + 2) [(.int .i64 (IntKind.wrap .i64 (v10 - 1)))] fun S12 =>
 j1_1_1_1 x0 x1 x2a x2l x2c S12) (
 j1_1_1_1 x0 x1 x2a x2l x2c S)))))

def r77_j1_1_1_1 (call : CallA) (n : Nat)  (w0 : Option Pos) (w1 : Int) (w2a : Option Pos) (w2l : Nat) (w2c : Cap) (S : AS) : Option (AV × AS) := evC E call n 77 (E.at 77 [1, 1, 1, 1]) 0 [(0, (.ptr w0)), (1, (.int .i64 w1)), (2, (.sl w2a w2l w2c))] S (retK E (E.fn 77))
theorem a77_j1_1_1_1 (call : CallA) (n : Nat)  (w0 : Option Pos) (w1 : Int) (w2a : Option Pos) (w2l : Nat) (w2c : Cap) (S : AS) : r77_j1_1_1_1 call n  w0 w1 w2a w2l w2c S = b77_j1_1_1_1 call n  w0 w1 w2a w2l w2c S := by kernel_rfl
theorem a77_entry (call : CallA) (n : Nat) (x0 : Option Pos) (x1 : Int) (x2a : Option Pos) (x2l : Nat) (x2c : Cap) (S : AS) : evC E call n 77 (E.at 77 []) 0 (enumT 0 [(.ptr x0), (.int .i64 x1), (.sl x2a x2l x2c)]) S (retK E (E.fn 77)) = b77_entry call n (r77_j1_1_1_1 call n ) x0 x1 x2a x2l x2c S := by kernel_rfl
def J77_j1_1_1_1 (call : CallA) (n : Nat)  (w0 : Option Pos) (w1 : Int) (w2a : Option Pos) (w2l : Nat) (w2c : Cap) (S : AS) : Option (AV × AS) := b77_j1_1_1_1 call n  w0 w1 w2a w2l w2c S
theorem h77_j1_1_1_1 (call : CallA) (n : Nat)  : r77_j1_1_1_1 call n  = J77_j1_1_1_1 call n  := by
  funext w0 w1 w2a w2l w2c S
  rw [J77_j1_1_1_1, a77_j1_1_1_1]
def J77 (call : CallA) (n : Nat) (x0 : Option Pos) (x1 : Int) (x2a : Option Pos) (x2l : Nat) (x2c : Cap) (S : AS) : Option (AV × AS) := b77_entry call n (J77_j1_1_1_1 call n ) x0 x1 x2a x2l x2c S
theorem run77 (o : Orc) (n : Nat) (args : List AV) (S : AS) (ho : o 77 args = none) : evF E o (n + 1) (.fn 77) args S = evC E (evF E o n) n 77 (E.at 77 []) 0 (enumT 0 args) S (retK E (E.fn 77)) := by
  rw [evF, ho]; kernel_rfl
theorem J77_eq (call : CallA) (n : Nat) (x0 : Option Pos) (x1 : Int) (x2a : Option Pos) (x2l : Nat) (x2c : Cap) (S : AS) : evC E call n 77 (E.at 77 []) 0 (enumT 0 [(.ptr x0), (.int .i64 x1), (.sl x2a x2l x2c)]) S (retK E (E.fn 77)) = J77 call n x0 x1 x2a x2l x2c S := by
  rw [J77, a77_entry, h77_j1_1_1_1 call n ]
theorem F77 {o : Orc} (n : Nat) (x0 : Option Pos) (x1 : Int) (x2a : Option Pos) (x2l : Nat) (x2c : Cap) (S : AS) (ho : ∀ args, o 77 args = none) : evF E o (n + 1) (.fn 77) [(.ptr x0), (.int .i64 x1), (.sl x2a x2l x2c)] S = J77 (evF E o n) n x0 x1 x2a x2l x2c S := (run77 o n [(.ptr x0), (.int .i64 x1), (.sl x2a x2l x2c)] S (ho _)).trans (J77_eq _ _ x0 x1 x2a x2l x2c S)
end
end Go.Jn
