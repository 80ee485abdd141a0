/- Plain readings of the functions, and that they are what the evaluator does: by program. -/
import Derived.Test.YtffeeebegglejaaGrRes
import Derived.Test.YtffeeebegglejaaENV
import Derived.KernelRfl
set_option maxRecDepth 100000
set_option linter.unusedVariables false
namespace Go.Na
open Go.Gr
noncomputable section
def b113_l1_1_0_1_0 (call : CallA) (n : Nat) (l1_1_0_1_0 : Option Pos → Int → Option Pos → Nat → Cap → Int → Int → AS → Option (AV × AS)) (j1_1_1 : Option Pos → Int → AS → Option (AV × AS)) (w0 : Option Pos) (w1 : Int) (w4a : Option Pos) (w4l : Nat) (w4c : Cap) (w5 : Int) (w6 : Int) (S : AS) : Option (AV × AS) :=
cond (decide (w6 ≥ 0)) (
gO w0 fun p5 =>
ldL S p5.1 (p5.2 + 1) fun v6a v6l v6c =>
ixSl 2 v6a v6l w6 fun p7 =>
ldI .i64 S p7.1 p7.2 fun v8 =>
cond (v8 == w1) (
gO w0 fun p9 =>
ldL S p9.1 (p9.2 + 1) fun v10a v10l v10c =>
ixSl 2 v10a v10l w6 fun p11 =>
ldS S p11.1 (p11.2 + 1) fun v12 =>
ifO (v12.length ≤ pow46) <|
newA S (.cells (ofBytes v12)) fun b13 S14 =>
some (.tup [(.sl (some (.rw b13, 0)) v12.length (.op 1 v12.length)), (.int .i64 0)], S14)) (
l1_1_0_1_0 w0 w1 w4a w4l w4c w5 (IntKind.wrap .i64 (w6 - 1)) S)) (
j1_1_1 w0 w1 S)

def b113_j1_1_1 (call : CallA) (n : Nat)  (w0 : Option Pos) (w1 : Int) (S : AS) : Option (AV × AS) :=
gO w0 fun p15 =>
ldL S p15.1 p15.2 fun v16a v16l v16c =>
ixSl 1 v16a v16l w1 fun p17 =>
ldS S p17.1 p17.2 fun v18 =>
ifO (v18.length ≤ pow46) <|
newA S (.cells (ofBytes v18)) fun b19 S20 =>
some (.tup [(.sl (some (.rw b19, 0)) v18.length (.op 1 v18.length)), (.int .i64 0)], S20)

def b113_entry (call : CallA) (n : Nat) (l1_1_0_1_0 : Option Pos → Int → Option Pos → Nat → Cap → Int → Int → AS → Option (AV × AS)) (x0 : Option Pos) (x1 : Int) (S : AS) : Option (AV × AS) :=
cond (decide (x1 < 0)) (
some (.tup [(.sl none 0 (.ex 0)), (.int .i64 2)], S)) (
gO x0 fun p1 =>
ldL S p1.1 p1.2 fun v2a v2l v2c =>
cond (decide (x1 ≥ ((v2l : Nat) : Int))) (
some (.tup [(.sl none 0 (.ex 0)), (.int .i64 2)], S)) (
gO x0 fun p3 =>
ldL S p3.1 (p3.2 + 1) fun v4a v4l v4c =>
l1_1_0_1_0 x0 x1 none 0 (.ex 0) 0 (IntKind.wrap .i64 (((v4l : Nat) : Int) - 1)) S))

def r113_l1_1_0_1_0 (call : CallA) (n : Nat)  (m : Nat) (w0 : Option Pos) (w1 : Int) (w4a : Option Pos) (w4l : Nat) (w4c : Cap) (w5 : Int) (w6 : Int) (S : AS) : Option (AV × AS) := loopN (evC E call n 113 (E.at 113 [1, 1, 0, 1, 0, 0]) 0) [0, 1, 4, 5, 6] m [(0, (.ptr w0)), (1, (.int .i64 w1)), (4, (.sl w4a w4l w4c)), (5, (.int .i64 w5)), (6, (.int .i64 w6))] S (kBlk 0 (kSeq E call n 113 (E.at 113 [1, 1, 1]) 0 (retK E (E.fn 113))))
def r113_j1_1_1 (call : CallA) (n : Nat)  (w0 : Option Pos) (w1 : Int) (S : AS) : Option (AV × AS) := evC E call n 113 (E.at 113 [1, 1, 1]) 0 [(0, (.ptr w0)), (1, (.int .i64 w1))] S (retK E (E.fn 113))
theorem a113_l1_1_0_1_0 (call : CallA) (n : Nat)  (m : Nat) (w0 : Option Pos) (w1 : Int) (w4a : Option Pos) (w4l : Nat) (w4c : Cap) (w5 : Int) (w6 : Int) (S : AS) : r113_l1_1_0_1_0 call n  (m + 1) w0 w1 w4a w4l w4c w5 w6 S = b113_l1_1_0_1_0 call n (r113_l1_1_0_1_0 call n  m) (r113_j1_1_1 call n ) w0 w1 w4a w4l w4c w5 w6 S := by kernel_rfl
theorem a113_j1_1_1 (call : CallA) (n : Nat)  (w0 : Option Pos) (w1 : Int) (S : AS) : r113_j1_1_1 call n  w0 w1 S = b113_j1_1_1 call n  w0 w1 S := by kernel_rfl
theorem a113_entry (call : CallA) (n : Nat) (x0 : Option Pos) (x1 : Int) (S : AS) : evC E call n 113 (E.at 113 []) 0 (enumT 0 [(.ptr x0), (.int .i64 x1)]) S (retK E (E.fn 113)) = b113_entry call n (r113_l1_1_0_1_0 call n  n) x0 x1 S := by kernel_rfl
def J113_j1_1_1 (call : CallA) (n : Nat)  (w0 : Option Pos) (w1 : Int) (S : AS) : Option (AV × AS) := b113_j1_1_1 call n  w0 w1 S
theorem h113_j1_1_1 (call : CallA) (n : Nat)  : r113_j1_1_1 call n  = J113_j1_1_1 call n  := by
  funext w0 w1 S
  rw [J113_j1_1_1, a113_j1_1_1]
def J113_l1_1_0_1_0 (call : CallA) (n : Nat)  (m : Nat) : Option Pos → Int → Option Pos → Nat → Cap → Int → Int → AS → Option (AV × AS) := Nat.rec (motive := fun _ => Option Pos → Int → Option Pos → Nat → Cap → Int → Int → AS → Option (AV × AS)) (fun _ _ _ _ _ _ _ _ => none) (fun _ ih w0 w1 w4a w4l w4c w5 w6 S => b113_l1_1_0_1_0 call n ih (J113_j1_1_1 call n ) w0 w1 w4a w4l w4c w5 w6 S) m
theorem J113_l1_1_0_1_0_succ (call : CallA) (n : Nat)  (m : Nat) (w0 : Option Pos) (w1 : Int) (w4a : Option Pos) (w4l : Nat) (w4c : Cap) (w5 : Int) (w6 : Int) (S : AS) : J113_l1_1_0_1_0 call n  (m + 1) w0 w1 w4a w4l w4c w5 w6 S = b113_l1_1_0_1_0 call n (J113_l1_1_0_1_0 call n  m) (J113_j1_1_1 call n ) w0 w1 w4a w4l w4c w5 w6 S := rfl
theorem h113_l1_1_0_1_0 (call : CallA) (n : Nat)  (m : Nat) : r113_l1_1_0_1_0 call n  m = J113_l1_1_0_1_0 call n  m := by
  induction m with
  | zero => rfl
  | succ m ih =>
    funext w0 w1 w4a w4l w4c w5 w6 S
    rw [J113_l1_1_0_1_0_succ, a113_l1_1_0_1_0, h113_j1_1_1 call n , ih]
def J113 (call : CallA) (n : Nat) (x0 : Option Pos) (x1 : Int) (S : AS) : Option (AV × AS) := b113_entry call n (J113_l1_1_0_1_0 call n  n) x0 x1 S
theorem run113 (o : Orc) (n : Nat) (args : List AV) (S : AS) (ho : o 113 args = none) : evF E o (n + 1) (.fn 113) args S = evC E (evF E o n) n 113 (E.at 113 []) 0 (enumT 0 args) S (retK E (E.fn 113)) := by
  rw [evF, ho]; kernel_rfl
theorem J113_eq (call : CallA) (n : Nat) (x0 : Option Pos) (x1 : Int) (S : AS) : evC E call n 113 (E.at 113 []) 0 (enumT 0 [(.ptr x0), (.int .i64 x1)]) S (retK E (E.fn 113)) = J113 call n x0 x1 S := by
  rw [J113, a113_entry, h113_l1_1_0_1_0 call n  n]
theorem F113 {o : Orc} (n : Nat) (x0 : Option Pos) (x1 : Int) (S : AS) (ho : ∀ args, o 113 args = none) : evF E o (n + 1) (.fn 113) [(.ptr x0), (.int .i64 x1)] S = J113 (evF E o n) n x0 x1 S := (run113 o n [(.ptr x0), (.int .i64 x1)] S (ho _)).trans (J113_eq _ _ x0 x1 S)
def b114_j1_1_1_1 (call : CallA) (n : Nat)  (w0 : Option Pos) (w1 : Int) (w2a : Option Pos) (w2l : Nat) (w2c : Cap) (S : AS) : Option (AV × AS) :=
drawA S 14 fun b13 S14 =>
gO w0 fun p15 =>
ldL S14 p15.1 (p15.2 + 1) fun v16a v16l v16c =>
bytesStr S14 w2a w2l fun s17 =>
layA S14 (b13 + 9) (.cells [(.int .i64 w1), (.str s17)]) fun S18 =>
appendA 2 24 S18 v16a v16l v16c 1 (firstA S18 2 1 (.sl (some (.rw (b13 + 9), 0)) 1 (.ex 1))) fun v19a v19l v19c S20 =>
gO w0 fun p21 =>
S20.stn p21.1 (p21.2 + 1) [(.sl v19a v19l v19c)] fun S22 =>
some ((.int .i64 0), S22)

def b114_entry (call : CallA) (n : Nat) (j1_1_1_1 : Option Pos → Int → Option Pos → Nat → Cap → AS → Option (AV × AS)) (x0 : Option Pos) (x1 : Int) (x2a : Option Pos) (x2l : Nat) (x2c : Cap) (S : AS) : Option (AV × AS) :=
cond (decide (x1 < 0)) (
some ((.int .i64 2), S)) (
gO x0 fun p1 =>
ldL S p1.1 p1.2 fun v2a v2l v2c =>
cond (decide (x1 ≥ ((v2l : Nat) : Int))) (
some ((.int .i64 2), S)) (
cond (((x2l : Nat) : Int) != 384) (
some ((.int .i64 2), S)) (
gO x0 fun p3 =>
ldI .i64 S p3.1 (p3.2 + 2) fun v4 =>
cond (v4 == 0) (
gO x0 fun p5 =>
S.stn p5.1 (p5.2 + 2) [(.int .i64 (-1))] fun S6 =>
some ((.int .i64 61), S6)) (
gO x0 fun p7 =>
ldI .i64 S p7.1 (p7.2 + 2) fun v8 =>
cond (decide (v8 > 0)) (
gO x0 fun p9 =>
ldI .i64 S p9.1 (p9.2 + 2) fun v10 =>
gO x0 fun p11 =>
S.stn p11.1 (p11.2 + 2) [(.int .i64 (IntKind.wrap .i64 (v10 - 1)))] fun S12 =>
j1_1_1_1 x0 x1 x2a x2l x2c S12) (
j1_1_1_1 x0 x1 x2a x2l x2c S)))))

def r114_j1_1_1_1 (call : CallA) (n : Nat)  (w0 : Option Pos) (w1 : Int) (w2a : Option Pos) (w2l : Nat) (w2c : Cap) (S : AS) : Option (AV × AS) := evC E call n 114 (E.at 114 [1, 1, 1, 1]) 0 [(0, (.ptr w0)), (1, (.int .i64 w1)), (2, (.sl w2a w2l w2c))] S (retK E (E.fn 114))
theorem a114_j1_1_1_1 (call : CallA) (n : Nat)  (w0 : Option Pos) (w1 : Int) (w2a : Option Pos) (w2l : Nat) (w2c : Cap) (S : AS) : r114_j1_1_1_1 call n  w0 w1 w2a w2l w2c S = b114_j1_1_1_1 call n  w0 w1 w2a w2l w2c S := by kernel_rfl
theorem a114_entry (call : CallA) (n : Nat) (x0 : Option Pos) (x1 : Int) (x2a : Option Pos) (x2l : Nat) (x2c : Cap) (S : AS) : evC E call n 114 (E.at 114 []) 0 (enumT 0 [(.ptr x0), (.int .i64 x1), (.sl x2a x2l x2c)]) S (retK E (E.fn 114)) = b114_entry call n (r114_j1_1_1_1 call n ) x0 x1 x2a x2l x2c S := by kernel_rfl
def J114_j1_1_1_1 (call : CallA) (n : Nat)  (w0 : Option Pos) (w1 : Int) (w2a : Option Pos) (w2l : Nat) (w2c : Cap) (S : AS) : Option (AV × AS) := b114_j1_1_1_1 call n  w0 w1 w2a w2l w2c S
theorem h114_j1_1_1_1 (call : CallA) (n : Nat)  : r114_j1_1_1_1 call n  = J114_j1_1_1_1 call n  := by
  funext w0 w1 w2a w2l w2c S
  rw [J114_j1_1_1_1, a114_j1_1_1_1]
def J114 (call : CallA) (n : Nat) (x0 : Option Pos) (x1 : Int) (x2a : Option Pos) (x2l : Nat) (x2c : Cap) (S : AS) : Option (AV × AS) := b114_entry call n (J114_j1_1_1_1 call n ) x0 x1 x2a x2l x2c S
theorem run114 (o : Orc) (n : Nat) (args : List AV) (S : AS) (ho : o 114 args = none) : evF E o (n + 1) (.fn 114) args S = evC E (evF E o n) n 114 (E.at 114 []) 0 (enumT 0 args) S (retK E (E.fn 114)) := by
  rw [evF, ho]; kernel_rfl
theorem J114_eq (call : CallA) (n : Nat) (x0 : Option Pos) (x1 : Int) (x2a : Option Pos) (x2l : Nat) (x2c : Cap) (S : AS) : evC E call n 114 (E.at 114 []) 0 (enumT 0 [(.ptr x0), (.int .i64 x1), (.sl x2a x2l x2c)]) S (retK E (E.fn 114)) = J114 call n x0 x1 x2a x2l x2c S := by
  rw [J114, a114_entry, h114_j1_1_1_1 call n ]
theorem F114 {o : Orc} (n : Nat) (x0 : Option Pos) (x1 : Int) (x2a : Option Pos) (x2l : Nat) (x2c : Cap) (S : AS) (ho : ∀ args, o 114 args = none) : evF E o (n + 1) (.fn 114) [(.ptr x0), (.int .i64 x1), (.sl x2a x2l x2c)] S = J114 (evF E o n) n x0 x1 x2a x2l x2c S := (run114 o n [(.ptr x0), (.int .i64 x1), (.sl x2a x2l x2c)] S (ho _)).trans (J114_eq _ _ x0 x1 x2a x2l x2c S)
def b115_entry (call : CallA) (n : Nat)  (x0 : Option Pos) (S : AS) : Option (AV × AS) :=
callB call 119 [(.ptr x0)] S fun v2 S1 =>
cond v2 (
some ((.int .i64 77), S1)) (
some ((.int .i64 0), S1))

theorem a115_entry (call : CallA) (n : Nat) (x0 : Option Pos) (S : AS) : evC E call n 115 (E.at 115 []) 0 (enumT 0 [(.ptr x0)]) S (retK E (E.fn 115)) = b115_entry call n  x0 S := by kernel_rfl
def J115 (call : CallA) (n : Nat) (x0 : Option Pos) (S : AS) : Option (AV × AS) := b115_entry call n  x0 S
theorem run115 (o : Orc) (n : Nat) (args : List AV) (S : AS) (ho : o 115 args = none) : evF E o (n + 1) (.fn 115) args S = evC E (evF E o n) n 115 (E.at 115 []) 0 (enumT 0 args) S (retK E (E.fn 115)) := by
  rw [evF, ho]; kernel_rfl
theorem J115_eq (call : CallA) (n : Nat) (x0 : Option Pos) (S : AS) : evC E call n 115 (E.at 115 []) 0 (enumT 0 [(.ptr x0)]) S (retK E (E.fn 115)) = J115 call n x0 S := by
  rw [J115, a115_entry]
theorem F115 {o : Orc} (n : Nat) (x0 : Option Pos) (S : AS) (ho : ∀ args, o 115 args = none) : evF E o (n + 1) (.fn 115) [(.ptr x0)] S = J115 (evF E o n) n x0 S := (run115 o n [(.ptr x0)] S (ho _)).trans (J115_eq _ _ x0 S)
def b116_entry (call : CallA) (n : Nat)  (x0 : Option Pos) (S : AS) : Option (AV × AS) :=
gO x0 fun p1 =>
ldL S p1.1 p1.2 fun v2a v2l v2c =>
some ((.int .i64 ((v2l : Nat) : Int)), S)

theorem a116_entry (call : CallA) (n : Nat) (x0 : Option Pos) (S : AS) : evC E call n 116 (E.at 116 []) 0 (enumT 0 [(.ptr x0)]) S (retK E (E.fn 116)) = b116_entry call n  x0 S := by kernel_rfl
def J116 (call : CallA) (n : Nat) (x0 : Option Pos) (S : AS) : Option (AV × AS) := b116_entry call n  x0 S
theorem run116 (o : Orc) (n : Nat) (args : List AV) (S : AS) (ho : o 116 args = none) : evF E o (n + 1) (.fn 116) args S = evC E (evF E o n) n 116 (E.at 116 []) 0 (enumT 0 args) S (retK E (E.fn 116)) := by
  rw [evF, ho]; kernel_rfl
theorem J116_eq (call : CallA) (n : Nat) (x0 : Option Pos) (S : AS) : evC E call n 116 (E.at 116 []) 0 (enumT 0 [(.ptr x0)]) S (retK E (E.fn 116)) = J116 call n x0 S := by
  rw [J116, a116_entry]
theorem F116 {o : Orc} (n : Nat) (x0 : Option Pos) (S : AS) (ho : ∀ args, o 116 args = none) : evF E o (n + 1) (.fn 116) [(.ptr x0)] S = J116 (evF E o n) n x0 S := (run116 o n [(.ptr x0)] S (ho _)).trans (J116_eq _ _ x0 S)
def b117_entry (call : CallA) (n : Nat)  (x0 : Option Pos) (x1 : Int) (S : AS) : Option (AV × AS) :=
callB call 119 [(.ptr x0)] S fun v2 S1 =>
cond v2 (
some (.tup [(.sl none 0 (.ex 0)), (.int .i64 77)], S1)) (
newA S1 (.cells []) fun b3 S4 =>
gO x0 fun p5 =>
ldL S4 p5.1 p5.2 fun v6a v6l v6c =>
ixSl 1 v6a v6l x1 fun p7 =>
ldL S4 p7.1 p7.2 fun v8a v8l v8c =>
appendA 1 1 S4 (some (.rw b3, 0)) 0 (.ex 0) v8l (firstA S4 1 v8l (.sl v8a v8l v8c)) fun v9a v9l v9c S10 =>
some (.tup [(.sl v9a v9l v9c), (.int .i64 0)], S10))

theorem a117_entry (call : CallA) (n : Nat) (x0 : Option Pos) (x1 : Int) (S : AS) : evC E call n 117 (E.at 117 []) 0 (enumT 0 [(.ptr x0), (.int .i64 x1)]) S (retK E (E.fn 117)) = b117_entry call n  x0 x1 S := by kernel_rfl
def J117 (call : CallA) (n : Nat) (x0 : Option Pos) (x1 : Int) (S : AS) : Option (AV × AS) := b117_entry call n  x0 x1 S
theorem run117 (o : Orc) (n : Nat) (args : List AV) (S : AS) (ho : o 117 args = none) : evF E o (n + 1) (.fn 117) args S = evC E (evF E o n) n 117 (E.at 117 []) 0 (enumT 0 args) S (retK E (E.fn 117)) := by
  rw [evF, ho]; kernel_rfl
theorem J117_eq (call : CallA) (n : Nat) (x0 : Option Pos) (x1 : Int) (S : AS) : evC E call n 117 (E.at 117 []) 0 (enumT 0 [(.ptr x0), (.int .i64 x1)]) S (retK E (E.fn 117)) = J117 call n x0 x1 S := by
  rw [J117, a117_entry]
theorem F117 {o : Orc} (n : Nat) (x0 : Option Pos) (x1 : Int) (S : AS) (ho : ∀ args, o 117 args = none) : evF E o (n + 1) (.fn 117) [(.ptr x0), (.int .i64 x1)] S = J117 (evF E o n) n x0 x1 S := (run117 o n [(.ptr x0), (.int .i64 x1)] S (ho _)).trans (J117_eq _ _ x0 x1 S)
def b119_entry (call : CallA) (n : Nat)  (x0 : Option Pos) (S : AS) : Option (AV × AS) :=
gO x0 fun p1 =>
ldI .i64 S p1.1 (p1.2 + 2) fun v2 =>
gO x0 fun p3 =>
S.stn p3.1 (p3.2 + 2) [(.int .i64 (IntKind.wrap .i64 (v2 + 1)))] fun S4 =>
gO x0 fun p5 =>
ldI .i64 S4 p5.1 (p5.2 + 2) fun v6 =>
gO x0 fun p7 =>
ldI .i64 S4 p7.1 (p7.2 + 3) fun v8 =>
cond (decide (v6 > v8)) (
gO x0 fun p9 =>
ldI .i64 S4 p9.1 (p9.2 + 2) fun v10 =>
gO x0 fun p11 =>
ldI .i64 S4 p11.1 (p11.2 + 3) fun v12 =>
gO x0 fun p13 =>
ldI .i64 S4 p13.1 (p13.2 + 4) fun v14 =>
some ((.bool (decide (v10 ≤ (IntKind.wrap .i64 (v12 + v14))))), S4)) (
some ((.bool false), S4))

theorem a119_entry (call : CallA) (n : Nat) (x0 : Option Pos) (S : AS) : evC E call n 119 (E.at 119 []) 0 (enumT 0 [(.ptr x0)]) S (retK E (E.fn 119)) = b119_entry call n  x0 S := by kernel_rfl
def J119 (call : CallA) (n : Nat) (x0 : Option Pos) (S : AS) : Option (AV × AS) := b119_entry call n  x0 S
theorem run119 (o : Orc) (n : Nat) (args : List AV) (S : AS) (ho : o 119 args = none) : evF E o (n + 1) (.fn 119) args S = evC E (evF E o n) n 119 (E.at 119 []) 0 (enumT 0 args) S (retK E (E.fn 119)) := by
  rw [evF, ho]; kernel_rfl
theorem J119_eq (call : CallA) (n : Nat) (x0 : Option Pos) (S : AS) : evC E call n 119 (E.at 119 []) 0 (enumT 0 [(.ptr x0)]) S (retK E (E.fn 119)) = J119 call n x0 S := by
  rw [J119, a119_entry]
theorem F119 {o : Orc} (n : Nat) (x0 : Option Pos) (S : AS) (ho : ∀ args, o 119 args = none) : evF E o (n + 1) (.fn 119) [(.ptr x0)] S = J119 (evF E o n) n x0 S := (run119 o n [(.ptr x0)] S (ho _)).trans (J119_eq _ _ x0 S)
end
end Go.Na
