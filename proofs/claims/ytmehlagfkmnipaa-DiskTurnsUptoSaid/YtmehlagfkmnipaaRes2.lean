/- Plain readings of the functions, and that they are what the evaluator does: by program. -/
import Derived.Test.YtmehlagfkmnipaaGrRes
import Derived.Test.YtmehlagfkmnipaaENV
import Derived.KernelRfl
set_option maxRecDepth 100000
set_option linter.unusedVariables false
namespace Go.Dk
open Go.Gr
noncomputable section
def b16_entry (call : CallA) (n : Nat)  (x0 : Option Pos) (S : AS) : Option (AV × AS) :=
 cond x0.isNone (
 some ((.sl none 0 (.ex 0)), S)) (
 gO x0 fun p1 =>
 ldL S p1.1 (p1.2 + 2) fun v2a v2l v2c =>
 callL call 43 [(.sl v2a v2l v2c)] S fun v4a v4l v4c S3 =>
 some ((.sl v4a v4l v4c), S3))

theorem a16_entry (call : CallA) (n : Nat) (x0 : Option Pos) (S : AS) : evC E call n 16 (E.at 16 []) 0 (enumT 0 [(.ptr x0)]) S (retK E (E.fn 16)) = b16_entry call n  x0 S := by kernel_rfl
def J16 (call : CallA) (n : Nat) (x0 : Option Pos) (S : AS) : Option (AV × AS) := b16_entry call n  x0 S
theorem run16 (o : Orc) (n : Nat) (args : List AV) (S : AS) (ho : o 16 args = none) : evF E o (n + 1) (.fn 16) args S = evC E (evF E o n) n 16 (E.at 16 []) 0 (enumT 0 args) S (retK E (E.fn 16)) := by
  rw [evF, ho]; kernel_rfl
theorem J16_eq (call : CallA) (n : Nat) (x0 : Option Pos) (S : AS) : evC E call n 16 (E.at 16 []) 0 (enumT 0 [(.ptr x0)]) S (retK E (E.fn 16)) = J16 call n x0 S := by
  rw [J16, a16_entry]
theorem F16 {o : Orc} (n : Nat) (x0 : Option Pos) (S : AS) (ho : ∀ args, o 16 args = none) : evF E o (n + 1) (.fn 16) [(.ptr x0)] S = J16 (evF E o n) n x0 S := (run16 o n [(.ptr x0)] S (ho _)).trans (J16_eq _ _ x0 S)
def b17_l1_1_0_1_0 (call : CallA) (n : Nat) (l1_1_0_1_0 : Option Pos → Option Pos → Nat → Cap → Int → Int → AS → Option (AV × AS)) (j1_1_1 : Option Pos → AS → Option (AV × AS)) (w0 : Option Pos) (w16a : Option Pos) (w16l : Nat) (w16c : Cap) (w17 : Int) (w18 : Int) (S : AS) : Option (AV × AS) :=
 cond (decide (w18 < w17)) (
 ixSl 2 w16a w16l w18 fun p5 =>
 S.ldn p5.1 p5.2 2 fun g6 =>
 newA S (.cells [(.int .i64 0), (.str ([]))]) fun b7 S8 =>
 ifO (g6.length = 2) <|
 S8.stn (.rw b7) 0 g6 fun S9 =>
 S9.ldn (.rw b7) 0 2 fun g10 =>
 callT call 44 [(.ptr w0), (.agg g10)] S9 fun v12 S11 =>
 l1_1_0_1_0 w0 w16a w16l w16c w17 (IntKind.wrap .i64 (w18 + 1)) S11) (
 j1_1_1 w0 S)

def b17_j1_1_1 (call : CallA) (n : Nat)  (w0 : Option Pos) (S : AS) : Option (AV × AS) :=
 gO w0 fun p13 =>
 S.stn p13.1 (p13.2 + 2) [(.sl none 0 (.ex 0))] fun S14 =>
 some ((.int .i64 0), S14)

def b17_entry (call : CallA) (n : Nat) (l1_1_0_1_0 : Option Pos → Option Pos → Nat → Cap → Int → Int → AS → Option (AV × AS)) (x0 : Option Pos) (S : AS) : Option (AV × AS) :=
 cond x0.isNone (
 some ((.int .i64 7), S)) (
 gO x0 fun p1 =>
 ldB S p1.1 (p1.2 + 3) fun v2 =>
 cond v2 (
 some ((.int .i64 41), S)) (
 gO x0 fun p3 =>
 ldL S p3.1 (p3.2 + 2) fun v4a v4l v4c =>
 l1_1_0_1_0 x0 v4a v4l v4c ((v4l : Nat) : Int) 0 S))

def r17_l1_1_0_1_0 (call : CallA) (n : Nat)  (m : Nat) (w0 : Option Pos) (w16a : Option Pos) (w16l : Nat) (w16c : Cap) (w17 : Int) (w18 : Int) (S : AS) : Option (AV × AS) := loopN (evC E call n 17 (E.at 17 [1, 1, 0, 1, 0, 0]) 1) [0, 16, 17, 18] m [(0, (.ptr w0)), (16, (.sl w16a w16l w16c)), (17, (.int .i64 w17)), (18, (.int .i64 w18))] S (kBlk 1 (kSeq E call n 17 (E.at 17 [1, 1, 1]) 0 (retK E (E.fn 17))))
def r17_j1_1_1 (call : CallA) (n : Nat)  (w0 : Option Pos) (S : AS) : Option (AV × AS) := evC E call n 17 (E.at 17 [1, 1, 1]) 0 [(0, (.ptr w0))] S (retK E (E.fn 17))
theorem a17_l1_1_0_1_0 (call : CallA) (n : Nat)  (m : Nat) (w0 : Option Pos) (w16a : Option Pos) (w16l : Nat) (w16c : Cap) (w17 : Int) (w18 : Int) (S : AS) : r17_l1_1_0_1_0 call n  (m + 1) w0 w16a w16l w16c w17 w18 S = b17_l1_1_0_1_0 call n (r17_l1_1_0_1_0 call n  m) (r17_j1_1_1 call n ) w0 w16a w16l w16c w17 w18 S := by kernel_rfl
theorem a17_j1_1_1 (call : CallA) (n : Nat)  (w0 : Option Pos) (S : AS) : r17_j1_1_1 call n  w0 S = b17_j1_1_1 call n  w0 S := by kernel_rfl
theorem a17_entry (call : CallA) (n : Nat) (x0 : Option Pos) (S : AS) : evC E call n 17 (E.at 17 []) 0 (enumT 0 [(.ptr x0)]) S (retK E (E.fn 17)) = b17_entry call n (r17_l1_1_0_1_0 call n  n) x0 S := by kernel_rfl
def J17_j1_1_1 (call : CallA) (n : Nat)  (w0 : Option Pos) (S : AS) : Option (AV × AS) := b17_j1_1_1 call n  w0 S
theorem h17_j1_1_1 (call : CallA) (n : Nat)  : r17_j1_1_1 call n  = J17_j1_1_1 call n  := by
  funext w0 S
  rw [J17_j1_1_1, a17_j1_1_1]
def J17_l1_1_0_1_0 (call : CallA) (n : Nat)  (m : Nat) : Option Pos → Option Pos → Nat → Cap → Int → Int → AS → Option (AV × AS) := Nat.rec (motive := fun _ => Option Pos → Option Pos → Nat → Cap → Int → Int → AS → Option (AV × AS)) (fun _ _ _ _ _ _ _ => none) (fun _ ih w0 w16a w16l w16c w17 w18 S => b17_l1_1_0_1_0 call n ih (J17_j1_1_1 call n ) w0 w16a w16l w16c w17 w18 S) m
theorem J17_l1_1_0_1_0_succ (call : CallA) (n : Nat)  (m : Nat) (w0 : Option Pos) (w16a : Option Pos) (w16l : Nat) (w16c : Cap) (w17 : Int) (w18 : Int) (S : AS) : J17_l1_1_0_1_0 call n  (m + 1) w0 w16a w16l w16c w17 w18 S = b17_l1_1_0_1_0 call n (J17_l1_1_0_1_0 call n  m) (J17_j1_1_1 call n ) w0 w16a w16l w16c w17 w18 S := rfl
theorem h17_l1_1_0_1_0 (call : CallA) (n : Nat)  (m : Nat) : r17_l1_1_0_1_0 call n  m = J17_l1_1_0_1_0 call n  m := by
  induction m with
  | zero => rfl
  | succ m ih =>
    funext w0 w16a w16l w16c w17 w18 S
    rw [J17_l1_1_0_1_0_succ, a17_l1_1_0_1_0, h17_j1_1_1 call n , ih]
def J17 (call : CallA) (n : Nat) (x0 : Option Pos) (S : AS) : Option (AV × AS) := b17_entry call n (J17_l1_1_0_1_0 call n  n) x0 S
theorem run17 (o : Orc) (n : Nat) (args : List AV) (S : AS) (ho : o 17 args = none) : evF E o (n + 1) (.fn 17) args S = evC E (evF E o n) n 17 (E.at 17 []) 0 (enumT 0 args) S (retK E (E.fn 17)) := by
  rw [evF, ho]; kernel_rfl
theorem J17_eq (call : CallA) (n : Nat) (x0 : Option Pos) (S : AS) : evC E call n 17 (E.at 17 []) 0 (enumT 0 [(.ptr x0)]) S (retK E (E.fn 17)) = J17 call n x0 S := by
  rw [J17, a17_entry, h17_l1_1_0_1_0 call n  n]
theorem F17 {o : Orc} (n : Nat) (x0 : Option Pos) (S : AS) (ho : ∀ args, o 17 args = none) : evF E o (n + 1) (.fn 17) [(.ptr x0)] S = J17 (evF E o n) n x0 S := (run17 o n [(.ptr x0)] S (ho _)).trans (J17_eq _ _ x0 S)
def b18_entry (call : CallA) (n : Nat)  (x0 : Option Pos) (S : AS) : Option (AV × AS) :=
 cond x0.isNone (
 some ((.int .i64 0), S)) (
 gO x0 fun p1 =>
 ldI .i64 S p1.1 (p1.2 + 4) fun v2 =>
 some ((.int .i64 v2), S))

theorem a18_entry (call : CallA) (n : Nat) (x0 : Option Pos) (S : AS) : evC E call n 18 (E.at 18 []) 0 (enumT 0 [(.ptr x0)]) S (retK E (E.fn 18)) = b18_entry call n  x0 S := by kernel_rfl
def J18 (call : CallA) (n : Nat) (x0 : Option Pos) (S : AS) : Option (AV × AS) := b18_entry call n  x0 S
theorem run18 (o : Orc) (n : Nat) (args : List AV) (S : AS) (ho : o 18 args = none) : evF E o (n + 1) (.fn 18) args S = evC E (evF E o n) n 18 (E.at 18 []) 0 (enumT 0 args) S (retK E (E.fn 18)) := by
  rw [evF, ho]; kernel_rfl
theorem J18_eq (call : CallA) (n : Nat) (x0 : Option Pos) (S : AS) : evC E call n 18 (E.at 18 []) 0 (enumT 0 [(.ptr x0)]) S (retK E (E.fn 18)) = J18 call n x0 S := by
  rw [J18, a18_entry]
theorem F18 {o : Orc} (n : Nat) (x0 : Option Pos) (S : AS) (ho : ∀ args, o 18 args = none) : evF E o (n + 1) (.fn 18) [(.ptr x0)] S = J18 (evF E o n) n x0 S := (run18 o n [(.ptr x0)] S (ho _)).trans (J18_eq _ _ x0 S)
def b19_l1_1_0_1_0 (call : CallA) (n : Nat) (l1_1_0_1_0 : Option Pos → Nat → Cap → Int → Int → AS → Option (AV × AS)) (j1_1_1 : Option Pos → Nat → Cap → Int → AS → Option (AV × AS)) (w0a : Option Pos) (w0l : Nat) (w0c : Cap) (w3 : Int) (w4 : Int) (S : AS) : Option (AV × AS) :=
 cond (decide (w4 < ((w0l : Nat) : Int))) (
 cond (decide (w4 ≤ 80)) (
 ixSl 6 w0a w0l w4 fun p1 =>
 ldL S p1.1 (p1.2 + 4) fun v2a v2l v2c =>
 ixSl 6 w0a w0l w4 fun p3 =>
 ldL S p3.1 (p3.2 + 5) fun v4a v4l v4c =>
 l1_1_0_1_0 w0a w0l w0c (IntKind.wrap .i64 ((IntKind.wrap .i64 (w3 + ((v2l : Nat) : Int))) + ((v4l : Nat) : Int))) (IntKind.wrap .i64 (w4 + 1)) S) (
 j1_1_1 w0a w0l w0c w3 S)) (
 j1_1_1 w0a w0l w0c w3 S)

def b19_j1_1_1 (call : CallA) (n : Nat)  (w0a : Option Pos) (w0l : Nat) (w0c : Cap) (w3 : Int) (S : AS) : Option (AV × AS) :=
 cond (decide (((w0l : Nat) : Int) > 80)) (
 some ((.bool true), S)) (
 some ((.bool (decide (w3 > 20000))), S))

def b19_entry (call : CallA) (n : Nat) (l1_1_0_1_0 : Option Pos → Nat → Cap → Int → Int → AS → Option (AV × AS)) (x0a : Option Pos) (x0l : Nat) (x0c : Cap) (S : AS) : Option (AV × AS) :=
 l1_1_0_1_0 x0a x0l x0c 0 0 S

def r19_l1_1_0_1_0 (call : CallA) (n : Nat)  (m : Nat) (w0a : Option Pos) (w0l : Nat) (w0c : Cap) (w3 : Int) (w4 : Int) (S : AS) : Option (AV × AS) := loopN (evC E call n 19 (E.at 19 [1, 1, 0, 1, 0, 0]) 0) [0, 3, 4] m [(0, (.sl w0a w0l w0c)), (3, (.int .i64 w3)), (4, (.int .i64 w4))] S (kBlk 0 (kSeq E call n 19 (E.at 19 [1, 1, 1]) 0 (retK E (E.fn 19))))
def r19_j1_1_1 (call : CallA) (n : Nat)  (w0a : Option Pos) (w0l : Nat) (w0c : Cap) (w3 : Int) (S : AS) : Option (AV × AS) := evC E call n 19 (E.at 19 [1, 1, 1]) 0 [(0, (.sl w0a w0l w0c)), (3, (.int .i64 w3))] S (retK E (E.fn 19))
theorem a19_l1_1_0_1_0 (call : CallA) (n : Nat)  (m : Nat) (w0a : Option Pos) (w0l : Nat) (w0c : Cap) (w3 : Int) (w4 : Int) (S : AS) : r19_l1_1_0_1_0 call n  (m + 1) w0a w0l w0c w3 w4 S = b19_l1_1_0_1_0 call n (r19_l1_1_0_1_0 call n  m) (r19_j1_1_1 call n ) w0a w0l w0c w3 w4 S := by kernel_rfl
theorem a19_j1_1_1 (call : CallA) (n : Nat)  (w0a : Option Pos) (w0l : Nat) (w0c : Cap) (w3 : Int) (S : AS) : r19_j1_1_1 call n  w0a w0l w0c w3 S = b19_j1_1_1 call n  w0a w0l w0c w3 S := by kernel_rfl
theorem a19_entry (call : CallA) (n : Nat) (x0a : Option Pos) (x0l : Nat) (x0c : Cap) (S : AS) : evC E call n 19 (E.at 19 []) 0 (enumT 0 [(.sl x0a x0l x0c)]) S (retK E (E.fn 19)) = b19_entry call n (r19_l1_1_0_1_0 call n  n) x0a x0l x0c S := by kernel_rfl
def J19_j1_1_1 (call : CallA) (n : Nat)  (w0a : Option Pos) (w0l : Nat) (w0c : Cap) (w3 : Int) (S : AS) : Option (AV × AS) := b19_j1_1_1 call n  w0a w0l w0c w3 S
theorem h19_j1_1_1 (call : CallA) (n : Nat)  : r19_j1_1_1 call n  = J19_j1_1_1 call n  := by
  funext w0a w0l w0c w3 S
  rw [J19_j1_1_1, a19_j1_1_1]
def J19_l1_1_0_1_0 (call : CallA) (n : Nat)  (m : Nat) : Option Pos → Nat → Cap → Int → Int → AS → Option (AV × AS) := Nat.rec (motive := fun _ => Option Pos → Nat → Cap → Int → Int → AS → Option (AV × AS)) (fun _ _ _ _ _ _ => none) (fun _ ih w0a w0l w0c w3 w4 S => b19_l1_1_0_1_0 call n ih (J19_j1_1_1 call n ) w0a w0l w0c w3 w4 S) m
theorem J19_l1_1_0_1_0_succ (call : CallA) (n : Nat)  (m : Nat) (w0a : Option Pos) (w0l : Nat) (w0c : Cap) (w3 : Int) (w4 : Int) (S : AS) : J19_l1_1_0_1_0 call n  (m + 1) w0a w0l w0c w3 w4 S = b19_l1_1_0_1_0 call n (J19_l1_1_0_1_0 call n  m) (J19_j1_1_1 call n ) w0a w0l w0c w3 w4 S := rfl
theorem h19_l1_1_0_1_0 (call : CallA) (n : Nat)  (m : Nat) : r19_l1_1_0_1_0 call n  m = J19_l1_1_0_1_0 call n  m := by
  induction m with
  | zero => rfl
  | succ m ih =>
    funext w0a w0l w0c w3 w4 S
    rw [J19_l1_1_0_1_0_succ, a19_l1_1_0_1_0, h19_j1_1_1 call n , ih]
def J19 (call : CallA) (n : Nat) (x0a : Option Pos) (x0l : Nat) (x0c : Cap) (S : AS) : Option (AV × AS) := b19_entry call n (J19_l1_1_0_1_0 call n  n) x0a x0l x0c S
theorem run19 (o : Orc) (n : Nat) (args : List AV) (S : AS) (ho : o 19 args = none) : evF E o (n + 1) (.fn 19) args S = evC E (evF E o n) n 19 (E.at 19 []) 0 (enumT 0 args) S (retK E (E.fn 19)) := by
  rw [evF, ho]; kernel_rfl
theorem J19_eq (call : CallA) (n : Nat) (x0a : Option Pos) (x0l : Nat) (x0c : Cap) (S : AS) : evC E call n 19 (E.at 19 []) 0 (enumT 0 [(.sl x0a x0l x0c)]) S (retK E (E.fn 19)) = J19 call n x0a x0l x0c S := by
  rw [J19, a19_entry, h19_l1_1_0_1_0 call n  n]
theorem F19 {o : Orc} (n : Nat) (x0a : Option Pos) (x0l : Nat) (x0c : Cap) (S : AS) (ho : ∀ args, o 19 args = none) : evF E o (n + 1) (.fn 19) [(.sl x0a x0l x0c)] S = J19 (evF E o n) n x0a x0l x0c S := (run19 o n [(.sl x0a x0l x0c)] S (ho _)).trans (J19_eq _ _ x0a x0l x0c S)
def b20_l1_1_1_1_0_1_0 (call : CallA) (n : Nat) (j1_1_1_1_0_1_0_0_1_1 : Option Pos → Nat → Cap → Option Pos → Option Pos → Int → AS → Option (AV × AS)) (j1_1_1_1_1 : Option Pos → Option Pos → AS → Option (AV × AS)) (w1a : Option Pos) (w1l : Nat) (w1c : Cap) (w6 : Option Pos) (w8 : Option Pos) (w10 : Int) (S : AS) : Option (AV × AS) :=
 cond (decide (w10 < ((w1l : Nat) : Int))) (
 ixSl 6 w1a w1l w10 fun p11 =>
 ldI .i64 S p11.1 p11.2 fun v12 =>
 cond (v12 != 8) (
 ixSl 6 w1a w1l w10 fun p13 =>
 S.ldn p13.1 p13.2 6 fun g14 =>
 callT call 34 [(.ptr w6), (.ptr w8), (.agg g14)] S fun v16 S15 =>
 j1_1_1_1_0_1_0_0_1_1 w1a w1l w1c w6 w8 w10 S15) (
 j1_1_1_1_0_1_0_0_1_1 w1a w1l w1c w6 w8 w10 S)) (
 j1_1_1_1_1 w6 w8 S)

def b20_j1_1_1_1_0_1_0_0_1_1 (call : CallA) (n : Nat) (l1_1_1_1_0_1_0 : Option Pos → Nat → Cap → Option Pos → Option Pos → Int → AS → Option (AV × AS)) (w1a : Option Pos) (w1l : Nat) (w1c : Cap) (w6 : Option Pos) (w8 : Option Pos) (w10 : Int) (S : AS) : Option (AV × AS) :=
 l1_1_1_1_0_1_0 w1a w1l w1c w6 w8 (IntKind.wrap .i64 (w10 + 1)) S

def b20_j1_1_1_1_1 (call : CallA) (n : Nat)  (w6 : Option Pos) (w8 : Option Pos) (S : AS) : Option (AV × AS) :=
 some (.tup [(.ptr w6), (.ptr w8)], S)

def b20_entry (call : CallA) (n : Nat) (l1_1_1_1_0_1_0 : Option Pos → Nat → Cap → Option Pos → Option Pos → Int → AS → Option (AV × AS)) (x0 : Int) (x1a : Option Pos) (x1l : Nat) (x1c : Cap) (S : AS) : Option (AV × AS) :=
 callT call 11 [(.int .i64 x0), (.int .i64 16)] S fun v2 S1 =>
 atP v2 0 fun v3 =>
 atI .i64 v2 1 fun v4 =>
 callT call 33 [(.int .i64 x0), (.int .i64 16)] S1 fun v6 S5 =>
 atP v6 0 fun v7 =>
 atI .i64 v6 1 fun v8 =>
 callI .i64 call 12 [(.int .i64 v4)] S5 fun v10 S9 =>
 cond (v10 != 0) (
 some (.tup [(.ptr none), (.ptr none)], S9)) (
 cond (v8 != 0) (
 some (.tup [(.ptr none), (.ptr none)], S9)) (
 cond v3.isNone (
 some (.tup [(.ptr none), (.ptr none)], S9)) (
 l1_1_1_1_0_1_0 x1a x1l x1c v3 v7 0 S9)))

def r20_l1_1_1_1_0_1_0 (call : CallA) (n : Nat)  (m : Nat) (w1a : Option Pos) (w1l : Nat) (w1c : Cap) (w6 : Option Pos) (w8 : Option Pos) (w10 : Int) (S : AS) : Option (AV × AS) := loopN (evC E call n 20 (E.at 20 [1, 1, 1, 1, 0, 1, 0, 0]) 0) [1, 6, 8, 10] m [(1, (.sl w1a w1l w1c)), (6, (.ptr w6)), (8, (.ptr w8)), (10, (.int .i64 w10))] S (kBlk 0 (kSeq E call n 20 (E.at 20 [1, 1, 1, 1, 1]) 0 (retK E (E.fn 20))))
def r20_j1_1_1_1_0_1_0_0_1_1 (call : CallA) (n : Nat) (m1_1_1_1_0_1_0 : Nat) (w1a : Option Pos) (w1l : Nat) (w1c : Cap) (w6 : Option Pos) (w8 : Option Pos) (w10 : Int) (S : AS) : Option (AV × AS) := evC E call n 20 (E.at 20 [1, 1, 1, 1, 0, 1, 0, 0, 1, 1]) 0 [(1, (.sl w1a w1l w1c)), (6, (.ptr w6)), (8, (.ptr w8)), (10, (.int .i64 w10))] S (kLp (evC E call n 20 (E.at 20 [1, 1, 1, 1, 0, 1, 0, 0]) 0) [1, 6, 8, 10] m1_1_1_1_0_1_0 (kBlk 0 (kSeq E call n 20 (E.at 20 [1, 1, 1, 1, 1]) 0 (retK E (E.fn 20)))))
def r20_j1_1_1_1_1 (call : CallA) (n : Nat)  (w6 : Option Pos) (w8 : Option Pos) (S : AS) : Option (AV × AS) := evC E call n 20 (E.at 20 [1, 1, 1, 1, 1]) 0 [(6, (.ptr w6)), (8, (.ptr w8))] S (retK E (E.fn 20))
theorem a20_l1_1_1_1_0_1_0 (call : CallA) (n : Nat)  (m : Nat) (w1a : Option Pos) (w1l : Nat) (w1c : Cap) (w6 : Option Pos) (w8 : Option Pos) (w10 : Int) (S : AS) : r20_l1_1_1_1_0_1_0 call n  (m + 1) w1a w1l w1c w6 w8 w10 S = b20_l1_1_1_1_0_1_0 call n (r20_j1_1_1_1_0_1_0_0_1_1 call n m) (r20_j1_1_1_1_1 call n ) w1a w1l w1c w6 w8 w10 S := by kernel_rfl
theorem a20_j1_1_1_1_0_1_0_0_1_1 (call : CallA) (n : Nat) (m1_1_1_1_0_1_0 : Nat) (w1a : Option Pos) (w1l : Nat) (w1c : Cap) (w6 : Option Pos) (w8 : Option Pos) (w10 : Int) (S : AS) : r20_j1_1_1_1_0_1_0_0_1_1 call n m1_1_1_1_0_1_0 w1a w1l w1c w6 w8 w10 S = b20_j1_1_1_1_0_1_0_0_1_1 call n (r20_l1_1_1_1_0_1_0 call n  m1_1_1_1_0_1_0) w1a w1l w1c w6 w8 w10 S := by kernel_rfl
theorem a20_j1_1_1_1_1 (call : CallA) (n : Nat)  (w6 : Option Pos) (w8 : Option Pos) (S : AS) : r20_j1_1_1_1_1 call n  w6 w8 S = b20_j1_1_1_1_1 call n  w6 w8 S := by kernel_rfl
theorem a20_entry (call : CallA) (n : Nat) (x0 : Int) (x1a : Option Pos) (x1l : Nat) (x1c : Cap) (S : AS) : evC E call n 20 (E.at 20 []) 0 (enumT 0 [(.int .i64 x0), (.sl x1a x1l x1c)]) S (retK E (E.fn 20)) = b20_entry call n (r20_l1_1_1_1_0_1_0 call n  n) x0 x1a x1l x1c S := by kernel_rfl
def J20_j1_1_1_1_0_1_0_0_1_1 (call : CallA) (n : Nat) (n1_1_1_1_0_1_0 : Option Pos → Nat → Cap → Option Pos → Option Pos → Int → AS → Option (AV × AS)) (w1a : Option Pos) (w1l : Nat) (w1c : Cap) (w6 : Option Pos) (w8 : Option Pos) (w10 : Int) (S : AS) : Option (AV × AS) := b20_j1_1_1_1_0_1_0_0_1_1 call n n1_1_1_1_0_1_0 w1a w1l w1c w6 w8 w10 S
theorem h20_j1_1_1_1_0_1_0_0_1_1 (call : CallA) (n : Nat) (m1_1_1_1_0_1_0 : Nat) : r20_j1_1_1_1_0_1_0_0_1_1 call n m1_1_1_1_0_1_0 = J20_j1_1_1_1_0_1_0_0_1_1 call n (r20_l1_1_1_1_0_1_0 call n  m1_1_1_1_0_1_0) := by
  funext w1a w1l w1c w6 w8 w10 S
  rw [J20_j1_1_1_1_0_1_0_0_1_1, a20_j1_1_1_1_0_1_0_0_1_1]
def J20_j1_1_1_1_1 (call : CallA) (n : Nat)  (w6 : Option Pos) (w8 : Option Pos) (S : AS) : Option (AV × AS) := b20_j1_1_1_1_1 call n  w6 w8 S
theorem h20_j1_1_1_1_1 (call : CallA) (n : Nat)  : r20_j1_1_1_1_1 call n  = J20_j1_1_1_1_1 call n  := by
  funext w6 w8 S
  rw [J20_j1_1_1_1_1, a20_j1_1_1_1_1]
def J20_l1_1_1_1_0_1_0 (call : CallA) (n : Nat)  (m : Nat) : Option Pos → Nat → Cap → Option Pos → Option Pos → Int → AS → Option (AV × AS) := Nat.rec (motive := fun _ => Option Pos → Nat → Cap → Option Pos → Option Pos → Int → AS → Option (AV × AS)) (fun _ _ _ _ _ _ _ => none) (fun _ ih w1a w1l w1c w6 w8 w10 S => b20_l1_1_1_1_0_1_0 call n (J20_j1_1_1_1_0_1_0_0_1_1 call n ih) (J20_j1_1_1_1_1 call n ) w1a w1l w1c w6 w8 w10 S) m
theorem J20_l1_1_1_1_0_1_0_succ (call : CallA) (n : Nat)  (m : Nat) (w1a : Option Pos) (w1l : Nat) (w1c : Cap) (w6 : Option Pos) (w8 : Option Pos) (w10 : Int) (S : AS) : J20_l1_1_1_1_0_1_0 call n  (m + 1) w1a w1l w1c w6 w8 w10 S = b20_l1_1_1_1_0_1_0 call n (J20_j1_1_1_1_0_1_0_0_1_1 call n (J20_l1_1_1_1_0_1_0 call n  m)) (J20_j1_1_1_1_1 call n ) w1a w1l w1c w6 w8 w10 S := rfl
theorem h20_l1_1_1_1_0_1_0 (call : CallA) (n : Nat)  (m : Nat) : r20_l1_1_1_1_0_1_0 call n  m = J20_l1_1_1_1_0_1_0 call n  m := by
  induction m with
  | zero => rfl
  | succ m ih =>
    funext w1a w1l w1c w6 w8 w10 S
    rw [J20_l1_1_1_1_0_1_0_succ, a20_l1_1_1_1_0_1_0, h20_j1_1_1_1_0_1_0_0_1_1 call n m, h20_j1_1_1_1_1 call n , ih]
def J20 (call : CallA) (n : Nat) (x0 : Int) (x1a : Option Pos) (x1l : Nat) (x1c : Cap) (S : AS) : Option (AV × AS) := b20_entry call n (J20_l1_1_1_1_0_1_0 call n  n) x0 x1a x1l x1c S
theorem run20 (o : Orc) (n : Nat) (args : List AV) (S : AS) (ho : o 20 args = none) : evF E o (n + 1) (.fn 20) args S = evC E (evF E o n) n 20 (E.at 20 []) 0 (enumT 0 args) S (retK E (E.fn 20)) := by
  rw [evF, ho]; kernel_rfl
theorem J20_eq (call : CallA) (n : Nat) (x0 : Int) (x1a : Option Pos) (x1l : Nat) (x1c : Cap) (S : AS) : evC E call n 20 (E.at 20 []) 0 (enumT 0 [(.int .i64 x0), (.sl x1a x1l x1c)]) S (retK E (E.fn 20)) = J20 call n x0 x1a x1l x1c S := by
  rw [J20, a20_entry, h20_l1_1_1_1_0_1_0 call n  n]
theorem F20 {o : Orc} (n : Nat) (x0 : Int) (x1a : Option Pos) (x1l : Nat) (x1c : Cap) (S : AS) (ho : ∀ args, o 20 args = none) : evF E o (n + 1) (.fn 20) [(.int .i64 x0), (.sl x1a x1l x1c)] S = J20 (evF E o n) n x0 x1a x1l x1c S := (run20 o n [(.int .i64 x0), (.sl x1a x1l x1c)] S (ho _)).trans (J20_eq _ _ x0 x1a x1l x1c S)
def b21_entry (call : CallA) (n : Nat)  (x0 : Option Pos) (x1 : Option Pos) (S : AS) : Option (AV × AS) :=
 cond x0.isNone (
 ptrEq x0 x1 fun b1 =>
 some ((.bool b1), S)) (
 cond x1.isNone (
 ptrEq x0 x1 fun b2 =>
 some ((.bool b2), S)) (
 gO x0 fun p3 =>
 ldI .i64 S p3.1 p3.2 fun v4 =>
 gO x1 fun p5 =>
 ldI .i64 S p5.1 p5.2 fun v6 =>
 cond (v4 == v6) (
 gO x0 fun p7 =>
 ldB S p7.1 (p7.2 + 3) fun v8 =>
 gO x1 fun p9 =>
 ldB S p9.1 (p9.2 + 3) fun v10 =>
 cond (v8 == v10) (
 gO x0 fun p11 =>
 ldL S p11.1 (p11.2 + 1) fun v12a v12l v12c =>
 gO x1 fun p13 =>
 ldL S p13.1 (p13.2 + 1) fun v14a v14l v14c =>
 callB call 45 [(.sl v12a v12l v12c), (.sl v14a v14l v14c)] S fun v16 S15 =>
 cond v16 (
 gO x0 fun p17 =>
 ldL S15 p17.1 (p17.2 + 2) fun v18a v18l v18c =>
 gO x1 fun p19 =>
 ldL S15 p19.1 (p19.2 + 2) fun v20a v20l v20c =>
 callB call 46 [(.sl v18a v18l v18c), (.sl v20a v20l v20c)] S15 fun v22 S21 =>
 some ((.bool v22), S21)) (
 some ((.bool false), S15))) (
 some ((.bool false), S))) (
 some ((.bool false), S))))

theorem a21_entry (call : CallA) (n : Nat) (x0 : Option Pos) (x1 : Option Pos) (S : AS) : evC E call n 21 (E.at 21 []) 0 (enumT 0 [(.ptr x0), (.ptr x1)]) S (retK E (E.fn 21)) = b21_entry call n  x0 x1 S := by kernel_rfl
def J21 (call : CallA) (n : Nat) (x0 : Option Pos) (x1 : Option Pos) (S : AS) : Option (AV × AS) := b21_entry call n  x0 x1 S
theorem run21 (o : Orc) (n : Nat) (args : List AV) (S : AS) (ho : o 21 args = none) : evF E o (n + 1) (.fn 21) args S = evC E (evF E o n) n 21 (E.at 21 []) 0 (enumT 0 args) S (retK E (E.fn 21)) := by
  rw [evF, ho]; kernel_rfl
theorem J21_eq (call : CallA) (n : Nat) (x0 : Option Pos) (x1 : Option Pos) (S : AS) : evC E call n 21 (E.at 21 []) 0 (enumT 0 [(.ptr x0), (.ptr x1)]) S (retK E (E.fn 21)) = J21 call n x0 x1 S := by
  rw [J21, a21_entry]
theorem F21 {o : Orc} (n : Nat) (x0 : Option Pos) (x1 : Option Pos) (S : AS) (ho : ∀ args, o 21 args = none) : evF E o (n + 1) (.fn 21) [(.ptr x0), (.ptr x1)] S = J21 (evF E o n) n x0 x1 S := (run21 o n [(.ptr x0), (.ptr x1)] S (ho _)).trans (J21_eq _ _ x0 x1 S)
def b22_l1_1_0_1_0 (call : CallA) (n : Nat) (l1_1_0_1_0 : Option Pos → Option Pos → Bool → Int → AS → Option (AV × AS)) (w0 : Option Pos) (w1 : Option Pos) (w4 : Bool) (w5 : Int) (S : AS) : Option (AV × AS) :=
 gO w0 fun p25 =>
 ldL S p25.1 p25.2 fun v26a v26l v26c =>
 cond (decide (w5 < ((v26l : Nat) : Int))) (
 gO w0 fun p27 =>
 ldL S p27.1 p27.2 fun v28a v28l v28c =>
 ixSl 1 v28a v28l w5 fun p29 =>
 ldS S p29.1 p29.2 fun v30 =>
 gO w1 fun p31 =>
 ldL S p31.1 p31.2 fun v32a v32l v32c =>
 ixSl 1 v32a v32l w5 fun p33 =>
 ldS S p33.1 p33.2 fun v34 =>
 cond (!(v30 == v34)) (
 some ((.bool false), S)) (
 l1_1_0_1_0 w0 w1 w4 (IntKind.wrap .i64 (w5 + 1)) S)) (
 some ((.bool true), S))

def b22_entry (call : CallA) (n : Nat) (l1_1_0_1_0 : Option Pos → Option Pos → Bool → Int → AS → Option (AV × AS)) (x0 : Option Pos) (x1 : Option Pos) (S : AS) : Option (AV × AS) :=
 gO x0 fun p1 =>
 ldL S p1.1 p1.2 fun v2a v2l v2c =>
 gO x1 fun p3 =>
 ldL S p3.1 p3.2 fun v4a v4l v4c =>
 cond (((v2l : Nat) : Int) != ((v4l : Nat) : Int)) (
 some ((.bool false), S)) (
 gO x0 fun p5 =>
 ldI .i64 S p5.1 (p5.2 + 5) fun v6 =>
 gO x1 fun p7 =>
 ldI .i64 S p7.1 (p7.2 + 5) fun v8 =>
 cond (v6 != v8) (
 some ((.bool false), S)) (
 gO x0 fun p9 =>
 ldB S p9.1 (p9.2 + 3) fun v10 =>
 gO x1 fun p11 =>
 ldB S p11.1 (p11.2 + 3) fun v12 =>
 cond (!(v10 == v12)) (
 some ((.bool false), S)) (
 gO x0 fun p13 =>
 ldL S p13.1 (p13.2 + 2) fun v14a v14l v14c =>
 gO x1 fun p15 =>
 ldL S p15.1 (p15.2 + 2) fun v16a v16l v16c =>
 callB call 30 [(.sl v14a v14l v14c), (.sl v16a v16l v16c)] S fun v18 S17 =>
 cond (!v18) (
 some ((.bool false), S17)) (
 gO x0 fun p19 =>
 ldL S17 p19.1 (p19.2 + 1) fun v20a v20l v20c =>
 gO x1 fun p21 =>
 ldL S17 p21.1 (p21.2 + 1) fun v22a v22l v22c =>
 callB call 24 [(.sl v20a v20l v20c), (.sl v22a v22l v22c)] S17 fun v24 S23 =>
 cond (!v24) (
 some ((.bool false), S23)) (
 l1_1_0_1_0 x0 x1 false 0 S23)))))

def r22_l1_1_0_1_0 (call : CallA) (n : Nat)  (m : Nat) (w0 : Option Pos) (w1 : Option Pos) (w4 : Bool) (w5 : Int) (S : AS) : Option (AV × AS) := loopN (evC E call n 22 (E.at 22 [1, 1, 0, 1, 0, 0]) 0) [0, 1, 4, 5] m [(0, (.ptr w0)), (1, (.ptr w1)), (4, (.bool w4)), (5, (.int .i64 w5))] S (kBlk 0 (kSeq E call n 22 (E.at 22 [1, 1, 1]) 0 (retK E (E.fn 22))))
theorem a22_l1_1_0_1_0 (call : CallA) (n : Nat)  (m : Nat) (w0 : Option Pos) (w1 : Option Pos) (w4 : Bool) (w5 : Int) (S : AS) : r22_l1_1_0_1_0 call n  (m + 1) w0 w1 w4 w5 S = b22_l1_1_0_1_0 call n (r22_l1_1_0_1_0 call n  m) w0 w1 w4 w5 S := by kernel_rfl
theorem a22_entry (call : CallA) (n : Nat) (x0 : Option Pos) (x1 : Option Pos) (S : AS) : evC E call n 22 (E.at 22 []) 0 (enumT 0 [(.ptr x0), (.ptr x1)]) S (retK E (E.fn 22)) = b22_entry call n (r22_l1_1_0_1_0 call n  n) x0 x1 S := by kernel_rfl
def J22_l1_1_0_1_0 (call : CallA) (n : Nat)  (m : Nat) : Option Pos → Option Pos → Bool → Int → AS → Option (AV × AS) := Nat.rec (motive := fun _ => Option Pos → Option Pos → Bool → Int → AS → Option (AV × AS)) (fun _ _ _ _ _ => none) (fun _ ih w0 w1 w4 w5 S => b22_l1_1_0_1_0 call n ih w0 w1 w4 w5 S) m
theorem J22_l1_1_0_1_0_succ (call : CallA) (n : Nat)  (m : Nat) (w0 : Option Pos) (w1 : Option Pos) (w4 : Bool) (w5 : Int) (S : AS) : J22_l1_1_0_1_0 call n  (m + 1) w0 w1 w4 w5 S = b22_l1_1_0_1_0 call n (J22_l1_1_0_1_0 call n  m) w0 w1 w4 w5 S := rfl
theorem h22_l1_1_0_1_0 (call : CallA) (n : Nat)  (m : Nat) : r22_l1_1_0_1_0 call n  m = J22_l1_1_0_1_0 call n  m := by
  induction m with
  | zero => rfl
  | succ m ih =>
    funext w0 w1 w4 w5 S
    rw [J22_l1_1_0_1_0_succ, a22_l1_1_0_1_0, ih]
def J22 (call : CallA) (n : Nat) (x0 : Option Pos) (x1 : Option Pos) (S : AS) : Option (AV × AS) := b22_entry call n (J22_l1_1_0_1_0 call n  n) x0 x1 S
theorem run22 (o : Orc) (n : Nat) (args : List AV) (S : AS) (ho : o 22 args = none) : evF E o (n + 1) (.fn 22) args S = evC E (evF E o n) n 22 (E.at 22 []) 0 (enumT 0 args) S (retK E (E.fn 22)) := by
  rw [evF, ho]; kernel_rfl
theorem J22_eq (call : CallA) (n : Nat) (x0 : Option Pos) (x1 : Option Pos) (S : AS) : evC E call n 22 (E.at 22 []) 0 (enumT 0 [(.ptr x0), (.ptr x1)]) S (retK E (E.fn 22)) = J22 call n x0 x1 S := by
  rw [J22, a22_entry, h22_l1_1_0_1_0 call n  n]
theorem F22 {o : Orc} (n : Nat) (x0 : Option Pos) (x1 : Option Pos) (S : AS) (ho : ∀ args, o 22 args = none) : evF E o (n + 1) (.fn 22) [(.ptr x0), (.ptr x1)] S = J22 (evF E o n) n x0 x1 S := (run22 o n [(.ptr x0), (.ptr x1)] S (ho _)).trans (J22_eq _ _ x0 x1 S)
def b23_l1_1_0_1_0 (call : CallA) (n : Nat) (j1_1_0_1_0_0_1_1_1 : Option Pos → Option Pos → Nat → Cap → Int → Int → AS → Option (AV × AS)) (w0 : Option Pos) (w2a : Option Pos) (w2l : Nat) (w2c : Cap) (w10 : Int) (w11 : Int) (S : AS) : Option (AV × AS) :=
 cond (decide (w11 < w10)) (
 gO w0 fun p3 =>
 ldL S p3.1 (p3.2 + 1) fun v4a v4l v4c =>
 ixSl 513 v4a v4l w11 fun p5 =>
 ldI .i64 S p5.1 (p5.2 + 512) fun v6 =>
 cond (v6 != 0) (
 newA S (.cells [(.int .i64 w11)]) fun b7 S8 =>
 appendA 1 8 S8 w2a w2l w2c 1 (firstA S8 1 1 (.sl (some (.rw b7, 0)) 1 (.ex 1))) fun v9a v9l v9c S10 =>
 j1_1_0_1_0_0_1_1_1 w0 v9a v9l v9c w10 w11 S10) (
 j1_1_0_1_0_0_1_1_1 w0 w2a w2l w2c w10 w11 S)) (
 some ((.sl w2a w2l w2c), S))

def b23_j1_1_0_1_0_0_1_1_1 (call : CallA) (n : Nat) (l1_1_0_1_0 : Option Pos → Option Pos → Nat → Cap → Int → Int → AS → Option (AV × AS)) (w0 : Option Pos) (w2a : Option Pos) (w2l : Nat) (w2c : Cap) (w10 : Int) (w11 : Int) (S : AS) : Option (AV × AS) :=
 l1_1_0_1_0 w0 w2a w2l w2c w10 (IntKind.wrap .i64 (w11 + 1)) S

def b23_entry (call : CallA) (n : Nat) (l1_1_0_1_0 : Option Pos → Option Pos → Nat → Cap → Int → Int → AS → Option (AV × AS)) (x0 : Option Pos) (S : AS) : Option (AV × AS) :=
 cond x0.isNone (
 some ((.sl none 0 (.ex 0)), S)) (
 gO x0 fun p1 =>
 ldL S p1.1 (p1.2 + 1) fun v2a v2l v2c =>
 l1_1_0_1_0 x0 none 0 (.ex 0) ((v2l : Nat) : Int) 0 S)

def r23_l1_1_0_1_0 (call : CallA) (n : Nat)  (m : Nat) (w0 : Option Pos) (w2a : Option Pos) (w2l : Nat) (w2c : Cap) (w10 : Int) (w11 : Int) (S : AS) : Option (AV × AS) := loopN (evC E call n 23 (E.at 23 [1, 1, 0, 1, 0, 0]) 0) [0, 2, 10, 11] m [(0, (.ptr w0)), (2, (.sl w2a w2l w2c)), (10, (.int .i64 w10)), (11, (.int .i64 w11))] S (kBlk 0 (kSeq E call n 23 (E.at 23 [1, 1, 1]) 0 (retK E (E.fn 23))))
def r23_j1_1_0_1_0_0_1_1_1 (call : CallA) (n : Nat) (m1_1_0_1_0 : Nat) (w0 : Option Pos) (w2a : Option Pos) (w2l : Nat) (w2c : Cap) (w10 : Int) (w11 : Int) (S : AS) : Option (AV × AS) := evC E call n 23 (E.at 23 [1, 1, 0, 1, 0, 0, 1, 1, 1]) 0 [(0, (.ptr w0)), (2, (.sl w2a w2l w2c)), (10, (.int .i64 w10)), (11, (.int .i64 w11))] S (kLp (evC E call n 23 (E.at 23 [1, 1, 0, 1, 0, 0]) 0) [0, 2, 10, 11] m1_1_0_1_0 (kBlk 0 (kSeq E call n 23 (E.at 23 [1, 1, 1]) 0 (retK E (E.fn 23)))))
theorem a23_l1_1_0_1_0 (call : CallA) (n : Nat)  (m : Nat) (w0 : Option Pos) (w2a : Option Pos) (w2l : Nat) (w2c : Cap) (w10 : Int) (w11 : Int) (S : AS) : r23_l1_1_0_1_0 call n  (m + 1) w0 w2a w2l w2c w10 w11 S = b23_l1_1_0_1_0 call n (r23_j1_1_0_1_0_0_1_1_1 call n m) w0 w2a w2l w2c w10 w11 S := by kernel_rfl
theorem a23_j1_1_0_1_0_0_1_1_1 (call : CallA) (n : Nat) (m1_1_0_1_0 : Nat) (w0 : Option Pos) (w2a : Option Pos) (w2l : Nat) (w2c : Cap) (w10 : Int) (w11 : Int) (S : AS) : r23_j1_1_0_1_0_0_1_1_1 call n m1_1_0_1_0 w0 w2a w2l w2c w10 w11 S = b23_j1_1_0_1_0_0_1_1_1 call n (r23_l1_1_0_1_0 call n  m1_1_0_1_0) w0 w2a w2l w2c w10 w11 S := by kernel_rfl
theorem a23_entry (call : CallA) (n : Nat) (x0 : Option Pos) (S : AS) : evC E call n 23 (E.at 23 []) 0 (enumT 0 [(.ptr x0)]) S (retK E (E.fn 23)) = b23_entry call n (r23_l1_1_0_1_0 call n  n) x0 S := by kernel_rfl
def J23_j1_1_0_1_0_0_1_1_1 (call : CallA) (n : Nat) (n1_1_0_1_0 : Option Pos → Option Pos → Nat → Cap → Int → Int → AS → Option (AV × AS)) (w0 : Option Pos) (w2a : Option Pos) (w2l : Nat) (w2c : Cap) (w10 : Int) (w11 : Int) (S : AS) : Option (AV × AS) := b23_j1_1_0_1_0_0_1_1_1 call n n1_1_0_1_0 w0 w2a w2l w2c w10 w11 S
theorem h23_j1_1_0_1_0_0_1_1_1 (call : CallA) (n : Nat) (m1_1_0_1_0 : Nat) : r23_j1_1_0_1_0_0_1_1_1 call n m1_1_0_1_0 = J23_j1_1_0_1_0_0_1_1_1 call n (r23_l1_1_0_1_0 call n  m1_1_0_1_0) := by
  funext w0 w2a w2l w2c w10 w11 S
  rw [J23_j1_1_0_1_0_0_1_1_1, a23_j1_1_0_1_0_0_1_1_1]
def J23_l1_1_0_1_0 (call : CallA) (n : Nat)  (m : Nat) : Option Pos → Option Pos → Nat → Cap → Int → Int → AS → Option (AV × AS) := Nat.rec (motive := fun _ => Option Pos → Option Pos → Nat → Cap → Int → Int → AS → Option (AV × AS)) (fun _ _ _ _ _ _ _ => none) (fun _ ih w0 w2a w2l w2c w10 w11 S => b23_l1_1_0_1_0 call n (J23_j1_1_0_1_0_0_1_1_1 call n ih) w0 w2a w2l w2c w10 w11 S) m
theorem J23_l1_1_0_1_0_succ (call : CallA) (n : Nat)  (m : Nat) (w0 : Option Pos) (w2a : Option Pos) (w2l : Nat) (w2c : Cap) (w10 : Int) (w11 : Int) (S : AS) : J23_l1_1_0_1_0 call n  (m + 1) w0 w2a w2l w2c w10 w11 S = b23_l1_1_0_1_0 call n (J23_j1_1_0_1_0_0_1_1_1 call n (J23_l1_1_0_1_0 call n  m)) w0 w2a w2l w2c w10 w11 S := rfl
theorem h23_l1_1_0_1_0 (call : CallA) (n : Nat)  (m : Nat) : r23_l1_1_0_1_0 call n  m = J23_l1_1_0_1_0 call n  m := by
  induction m with
  | zero => rfl
  | succ m ih =>
    funext w0 w2a w2l w2c w10 w11 S
    rw [J23_l1_1_0_1_0_succ, a23_l1_1_0_1_0, h23_j1_1_0_1_0_0_1_1_1 call n m, ih]
def J23 (call : CallA) (n : Nat) (x0 : Option Pos) (S : AS) : Option (AV × AS) := b23_entry call n (J23_l1_1_0_1_0 call n  n) x0 S
theorem run23 (o : Orc) (n : Nat) (args : List AV) (S : AS) (ho : o 23 args = none) : evF E o (n + 1) (.fn 23) args S = evC E (evF E o n) n 23 (E.at 23 []) 0 (enumT 0 args) S (retK E (E.fn 23)) := by
  rw [evF, ho]; kernel_rfl
theorem J23_eq (call : CallA) (n : Nat) (x0 : Option Pos) (S : AS) : evC E call n 23 (E.at 23 []) 0 (enumT 0 [(.ptr x0)]) S (retK E (E.fn 23)) = J23 call n x0 S := by
  rw [J23, a23_entry, h23_l1_1_0_1_0 call n  n]
theorem F23 {o : Orc} (n : Nat) (x0 : Option Pos) (S : AS) (ho : ∀ args, o 23 args = none) : evF E o (n + 1) (.fn 23) [(.ptr x0)] S = J23 (evF E o n) n x0 S := (run23 o n [(.ptr x0)] S (ho _)).trans (J23_eq _ _ x0 S)
def b24_l1_1_0_1_0 (call : CallA) (n : Nat) (l1_1_0_1_0 : Option Pos → Nat → Cap → Option Pos → Nat → Cap → Bool → Int → AS → Option (AV × AS)) (w0a : Option Pos) (w0l : Nat) (w0c : Cap) (w1a : Option Pos) (w1l : Nat) (w1c : Cap) (w4 : Bool) (w5 : Int) (S : AS) : Option (AV × AS) :=
 cond (decide (w5 < ((w0l : Nat) : Int))) (
 ixSl 1 w0a w0l w5 fun p1 =>
 ldI .i64 S p1.1 p1.2 fun v2 =>
 ixSl 1 w1a w1l w5 fun p3 =>
 ldI .i64 S p3.1 p3.2 fun v4 =>
 cond (v2 != v4) (
 some ((.bool false), S)) (
 l1_1_0_1_0 w0a w0l w0c w1a w1l w1c w4 (IntKind.wrap .i64 (w5 + 1)) S)) (
 some ((.bool true), S))

def b24_entry (call : CallA) (n : Nat) (l1_1_0_1_0 : Option Pos → Nat → Cap → Option Pos → Nat → Cap → Bool → Int → AS → Option (AV × AS)) (x0a : Option Pos) (x0l : Nat) (x0c : Cap) (x1a : Option Pos) (x1l : Nat) (x1c : Cap) (S : AS) : Option (AV × AS) :=
 cond (((x0l : Nat) : Int) != ((x1l : Nat) : Int)) (
 some ((.bool false), S)) (
 l1_1_0_1_0 x0a x0l x0c x1a x1l x1c false 0 S)

def r24_l1_1_0_1_0 (call : CallA) (n : Nat)  (m : Nat) (w0a : Option Pos) (w0l : Nat) (w0c : Cap) (w1a : Option Pos) (w1l : Nat) (w1c : Cap) (w4 : Bool) (w5 : Int) (S : AS) : Option (AV × AS) := loopN (evC E call n 24 (E.at 24 [1, 1, 0, 1, 0, 0]) 0) [0, 1, 4, 5] m [(0, (.sl w0a w0l w0c)), (1, (.sl w1a w1l w1c)), (4, (.bool w4)), (5, (.int .i64 w5))] S (kBlk 0 (kSeq E call n 24 (E.at 24 [1, 1, 1]) 0 (retK E (E.fn 24))))
theorem a24_l1_1_0_1_0 (call : CallA) (n : Nat)  (m : Nat) (w0a : Option Pos) (w0l : Nat) (w0c : Cap) (w1a : Option Pos) (w1l : Nat) (w1c : Cap) (w4 : Bool) (w5 : Int) (S : AS) : r24_l1_1_0_1_0 call n  (m + 1) w0a w0l w0c w1a w1l w1c w4 w5 S = b24_l1_1_0_1_0 call n (r24_l1_1_0_1_0 call n  m) w0a w0l w0c w1a w1l w1c w4 w5 S := by kernel_rfl
theorem a24_entry (call : CallA) (n : Nat) (x0a : Option Pos) (x0l : Nat) (x0c : Cap) (x1a : Option Pos) (x1l : Nat) (x1c : Cap) (S : AS) : evC E call n 24 (E.at 24 []) 0 (enumT 0 [(.sl x0a x0l x0c), (.sl x1a x1l x1c)]) S (retK E (E.fn 24)) = b24_entry call n (r24_l1_1_0_1_0 call n  n) x0a x0l x0c x1a x1l x1c S := by kernel_rfl
def J24_l1_1_0_1_0 (call : CallA) (n : Nat)  (m : Nat) : Option Pos → Nat → Cap → Option Pos → Nat → Cap → Bool → Int → AS → Option (AV × AS) := Nat.rec (motive := fun _ => Option Pos → Nat → Cap → Option Pos → Nat → Cap → Bool → Int → AS → Option (AV × AS)) (fun _ _ _ _ _ _ _ _ _ => none) (fun _ ih w0a w0l w0c w1a w1l w1c w4 w5 S => b24_l1_1_0_1_0 call n ih w0a w0l w0c w1a w1l w1c w4 w5 S) m
theorem J24_l1_1_0_1_0_succ (call : CallA) (n : Nat)  (m : Nat) (w0a : Option Pos) (w0l : Nat) (w0c : Cap) (w1a : Option Pos) (w1l : Nat) (w1c : Cap) (w4 : Bool) (w5 : Int) (S : AS) : J24_l1_1_0_1_0 call n  (m + 1) w0a w0l w0c w1a w1l w1c w4 w5 S = b24_l1_1_0_1_0 call n (J24_l1_1_0_1_0 call n  m) w0a w0l w0c w1a w1l w1c w4 w5 S := rfl
theorem h24_l1_1_0_1_0 (call : CallA) (n : Nat)  (m : Nat) : r24_l1_1_0_1_0 call n  m = J24_l1_1_0_1_0 call n  m := by
  induction m with
  | zero => rfl
  | succ m ih =>
    funext w0a w0l w0c w1a w1l w1c w4 w5 S
    rw [J24_l1_1_0_1_0_succ, a24_l1_1_0_1_0, ih]
def J24 (call : CallA) (n : Nat) (x0a : Option Pos) (x0l : Nat) (x0c : Cap) (x1a : Option Pos) (x1l : Nat) (x1c : Cap) (S : AS) : Option (AV × AS) := b24_entry call n (J24_l1_1_0_1_0 call n  n) x0a x0l x0c x1a x1l x1c S
theorem run24 (o : Orc) (n : Nat) (args : List AV) (S : AS) (ho : o 24 args = none) : evF E o (n + 1) (.fn 24) args S = evC E (evF E o n) n 24 (E.at 24 []) 0 (enumT 0 args) S (retK E (E.fn 24)) := by
  rw [evF, ho]; kernel_rfl
theorem J24_eq (call : CallA) (n : Nat) (x0a : Option Pos) (x0l : Nat) (x0c : Cap) (x1a : Option Pos) (x1l : Nat) (x1c : Cap) (S : AS) : evC E call n 24 (E.at 24 []) 0 (enumT 0 [(.sl x0a x0l x0c), (.sl x1a x1l x1c)]) S (retK E (E.fn 24)) = J24 call n x0a x0l x0c x1a x1l x1c S := by
  rw [J24, a24_entry, h24_l1_1_0_1_0 call n  n]
theorem F24 {o : Orc} (n : Nat) (x0a : Option Pos) (x0l : Nat) (x0c : Cap) (x1a : Option Pos) (x1l : Nat) (x1c : Cap) (S : AS) (ho : ∀ args, o 24 args = none) : evF E o (n + 1) (.fn 24) [(.sl x0a x0l x0c), (.sl x1a x1l x1c)] S = J24 (evF E o n) n x0a x0l x0c x1a x1l x1c S := (run24 o n [(.sl x0a x0l x0c), (.sl x1a x1l x1c)] S (ho _)).trans (J24_eq _ _ x0a x0l x0c x1a x1l x1c S)
def b25_entry (call : CallA) (n : Nat)  (x0 : Option Pos) (x1 : Int) (S : AS) : Option (AV × AS) :=
 cond x0.isNone (
 some (.tup [(.sl none 0 (.ex 0)), (.bool false)], S)) (
 callB call 40 [(.ptr x0), (.int .i64 x1)] S fun v2 S1 =>
 cond (!v2) (
 some (.tup [(.sl none 0 (.ex 0)), (.bool false)], S1)) (
 gO x0 fun p3 =>
 ldL S1 p3.1 (p3.2 + 1) fun v4a v4l v4c =>
 ixSl 513 v4a v4l x1 fun p5 =>
 gO x0 fun p6 =>
 ldI .i64 S1 p6.1 p6.2 fun v7 =>
 slArr 1 p5 512 none (some v7) none fun v8a v8l v8c =>
 callL call 42 [(.sl v8a v8l v8c)] S1 fun v10a v10l v10c S9 =>
 some (.tup [(.sl v10a v10l v10c), (.bool true)], S9)))

theorem a25_entry (call : CallA) (n : Nat) (x0 : Option Pos) (x1 : Int) (S : AS) : evC E call n 25 (E.at 25 []) 0 (enumT 0 [(.ptr x0), (.int .i64 x1)]) S (retK E (E.fn 25)) = b25_entry call n  x0 x1 S := by kernel_rfl
def J25 (call : CallA) (n : Nat) (x0 : Option Pos) (x1 : Int) (S : AS) : Option (AV × AS) := b25_entry call n  x0 x1 S
theorem run25 (o : Orc) (n : Nat) (args : List AV) (S : AS) (ho : o 25 args = none) : evF E o (n + 1) (.fn 25) args S = evC E (evF E o n) n 25 (E.at 25 []) 0 (enumT 0 args) S (retK E (E.fn 25)) := by
  rw [evF, ho]; kernel_rfl
theorem J25_eq (call : CallA) (n : Nat) (x0 : Option Pos) (x1 : Int) (S : AS) : evC E call n 25 (E.at 25 []) 0 (enumT 0 [(.ptr x0), (.int .i64 x1)]) S (retK E (E.fn 25)) = J25 call n x0 x1 S := by
  rw [J25, a25_entry]
theorem F25 {o : Orc} (n : Nat) (x0 : Option Pos) (x1 : Int) (S : AS) (ho : ∀ args, o 25 args = none) : evF E o (n + 1) (.fn 25) [(.ptr x0), (.int .i64 x1)] S = J25 (evF E o n) n x0 x1 S := (run25 o n [(.ptr x0), (.int .i64 x1)] S (ho _)).trans (J25_eq _ _ x0 x1 S)
def b26_entry (call : CallA) (n : Nat)  (x0 : Option Pos) (S : AS) : Option (AV × AS) :=
 cond x0.isNone (
 some ((.ptr none), S)) (
 gO x0 fun p1 =>
 S.ldn p1.1 p1.2 5 fun g2 =>
 newA S (.cells [(.int .i64 0), (.sl none 0 (.ex 0)), (.sl none 0 (.ex 0)), (.bool false), (.int .i64 0)]) fun b3 S4 =>
 ifO (g2.length = 5) <|
 S4.stn (.rw b3) 0 g2 fun S5 =>
 gO x0 fun p6 =>
 ldL S5 p6.1 (p6.2 + 1) fun v7a v7l v7c =>
 callL call 47 [(.sl v7a v7l v7c)] S5 fun v9a v9l v9c S8 =>
 gO x0 fun p10 =>
 ldL S8 p10.1 (p10.2 + 2) fun v11a v11l v11c =>
 ldL S5 p10.1 (p10.2 + 2) fun v12a v12l v12c =>
 cond (AV.beq (.sl v12a v12l v12c) (.sl v11a v11l v11c)) (
 callL call 43 [(.sl v11a v11l v11c)] S8 fun v14a v14l v14c S13 =>
 S13.stn (.rw b3) 1 [(.sl v9a v9l v9c)] fun S15 =>
 S15.stn (.rw b3) 2 [(.sl v14a v14l v14c)] fun S16 =>
 some ((.ptr (some ((.rw b3), 0))), S16)) none)

theorem a26_entry (call : CallA) (n : Nat) (x0 : Option Pos) (S : AS) : evC E call n 26 (E.at 26 []) 0 (enumT 0 [(.ptr x0)]) S (retK E (E.fn 26)) = b26_entry call n  x0 S := by kernel_rfl
def J26 (call : CallA) (n : Nat) (x0 : Option Pos) (S : AS) : Option (AV × AS) := b26_entry call n  x0 S
theorem run26 (o : Orc) (n : Nat) (args : List AV) (S : AS) (ho : o 26 args = none) : evF E o (n + 1) (.fn 26) args S = evC E (evF E o n) n 26 (E.at 26 []) 0 (enumT 0 args) S (retK E (E.fn 26)) := by
  rw [evF, ho]; kernel_rfl
theorem J26_eq (call : CallA) (n : Nat) (x0 : Option Pos) (S : AS) : evC E call n 26 (E.at 26 []) 0 (enumT 0 [(.ptr x0)]) S (retK E (E.fn 26)) = J26 call n x0 S := by
  rw [J26, a26_entry]
theorem F26 {o : Orc} (n : Nat) (x0 : Option Pos) (S : AS) (ho : ∀ args, o 26 args = none) : evF E o (n + 1) (.fn 26) [(.ptr x0)] S = J26 (evF E o n) n x0 S := (run26 o n [(.ptr x0)] S (ho _)).trans (J26_eq _ _ x0 S)
def b27_j1_1_1_1 (call : CallA) (n : Nat) (l1_1_1_1_1_1_1_1_0_1_0 : Option Pos → Int → Int → Int → Int → AS → Option (AV × AS)) (w0 : Option Pos) (w1 : Int) (w2 : Int) (w3 : Int) (S : AS) : Option (AV × AS) :=
 cond (w3 == 0) (
 some ((.int .i64 2), S)) (
 callI .i64 call 48 [(.ptr w0), (.int .i64 w1)] S fun v8 S7 =>
 cond (v8 != 0) (
 some ((.int .i64 v8), S7)) (
 gO w0 fun p9 =>
 ldL S7 p9.1 (p9.2 + 1) fun v10a v10l v10c =>
 ixSl 513 v10a v10l w1 fun p11 =>
 S7.stn p11.1 (p11.2 + 512) [(.int .i64 2)] fun S12 =>
 l1_1_1_1_1_1_1_1_0_1_0 w0 w1 w2 w3 0 S12))

def b27_l1_1_1_1_1_1_1_1_0_1_0 (call : CallA) (n : Nat) (j1_1_1_1_1_1_1_1_0_1_0_0_1_1_1 : Option Pos → Int → Int → Int → Int → AS → Option (AV × AS)) (w0 : Option Pos) (w1 : Int) (w2 : Int) (w3 : Int) (w60 : Int) (S : AS) : Option (AV × AS) :=
 cond (decide (w60 < 32)) (
 nneg w60 <|
 cond ((andI .u32 (shrI .u32 w3 w60) 1) == 1) (
 gO w0 fun p13 =>
 ldL S p13.1 (p13.2 + 1) fun v14a v14l v14c =>
 ixSl 513 v14a v14l w1 fun p15 =>
 ixArr 1 p15 512 (IntKind.wrap .i64 (Int.tdiv (IntKind.wrap .i64 (w2 + w60)) 8)) fun p16 =>
 ldI .u8 S p16.1 p16.2 fun v17 =>
 nneg (Int.tmod (IntKind.wrap .i64 (w2 + w60)) 8) <|
 ixSl 513 v14a v14l w1 fun p18 =>
 ixArr 1 p18 512 (IntKind.wrap .i64 (Int.tdiv (IntKind.wrap .i64 (w2 + w60)) 8)) fun p19 =>
 S.stn p19.1 p19.2 [(.int .u8 (xorI .u8 v17 (shlI .u8 1 (Int.tmod (IntKind.wrap .i64 (w2 + w60)) 8))))] fun S20 =>
 j1_1_1_1_1_1_1_1_0_1_0_0_1_1_1 w0 w1 w2 w3 w60 S20) (
 j1_1_1_1_1_1_1_1_0_1_0_0_1_1_1 w0 w1 w2 w3 w60 S)) (
 some ((.int .i64 0), S))

def b27_j1_1_1_1_1_1_1_1_0_1_0_0_1_1_1 (call : CallA) (n : Nat) (l1_1_1_1_1_1_1_1_0_1_0 : Option Pos → Int → Int → Int → Int → AS → Option (AV × AS)) (w0 : Option Pos) (w1 : Int) (w2 : Int) (w3 : Int) (w60 : Int) (S : AS) : Option (AV × AS) :=
 l1_1_1_1_1_1_1_1_0_1_0 w0 w1 w2 w3 (IntKind.wrap .i64 (w60 + 1)) S

def b27_entry (call : CallA) (n : Nat) (j1_1_1_1 : Option Pos → Int → Int → Int → AS → Option (AV × AS)) (x0 : Option Pos) (x1 : Int) (x2 : Int) (x3 : Int) (S : AS) : Option (AV × AS) :=
 cond x0.isNone (
 some ((.int .i64 7), S)) (
 callB call 40 [(.ptr x0), (.int .i64 x1)] S fun v2 S1 =>
 cond (!v2) (
 some ((.int .i64 2), S1)) (
 cond (decide (x2 < 0)) (
 some ((.int .i64 2), S1)) (
 gO x0 fun p3 =>
 ldI .i64 S1 p3.1 p3.2 fun v4 =>
 cond (decide (x2 ≥ (IntKind.wrap .i64 (8 * v4)))) (
 some ((.int .i64 2), S1)) (
 gO x0 fun p5 =>
 ldI .i64 S1 p5.1 p5.2 fun v6 =>
 cond (decide ((IntKind.wrap .i64 ((IntKind.wrap .i64 (8 * v6)) - x2)) < 32)) (
 nneg (IntKind.wrap .i64 ((IntKind.wrap .i64 (8 * v6)) - x2)) <|
 j1_1_1_1 x0 x1 x2 (andI .u32 x3 (IntKind.wrap .u32 ((shlI .u32 1 (IntKind.wrap .i64 ((IntKind.wrap .i64 (8 * v6)) - x2))) - 1))) S1) (
 j1_1_1_1 x0 x1 x2 x3 S1)))))

def r27_j1_1_1_1 (call : CallA) (n : Nat)  (w0 : Option Pos) (w1 : Int) (w2 : Int) (w3 : Int) (S : AS) : Option (AV × AS) := evC E call n 27 (E.at 27 [1, 1, 1, 1]) 0 [(0, (.ptr w0)), (1, (.int .i64 w1)), (2, (.int .i64 w2)), (3, (.int .u32 w3))] S (retK E (E.fn 27))
def r27_l1_1_1_1_1_1_1_1_0_1_0 (call : CallA) (n : Nat)  (m : Nat) (w0 : Option Pos) (w1 : Int) (w2 : Int) (w3 : Int) (w60 : Int) (S : AS) : Option (AV × AS) := loopN (evC E call n 27 (E.at 27 [1, 1, 1, 1, 1, 1, 1, 1, 0, 1, 0, 0]) 0) [0, 1, 2, 3, 60] m [(0, (.ptr w0)), (1, (.int .i64 w1)), (2, (.int .i64 w2)), (3, (.int .u32 w3)), (60, (.int .i64 w60))] S (kBlk 0 (kSeq E call n 27 (E.at 27 [1, 1, 1, 1, 1, 1, 1, 1, 1]) 0 (retK E (E.fn 27))))
def r27_j1_1_1_1_1_1_1_1_0_1_0_0_1_1_1 (call : CallA) (n : Nat) (m1_1_1_1_1_1_1_1_0_1_0 : Nat) (w0 : Option Pos) (w1 : Int) (w2 : Int) (w3 : Int) (w60 : Int) (S : AS) : Option (AV × AS) := evC E call n 27 (E.at 27 [1, 1, 1, 1, 1, 1, 1, 1, 0, 1, 0, 0, 1, 1, 1]) 0 [(0, (.ptr w0)), (1, (.int .i64 w1)), (2, (.int .i64 w2)), (3, (.int .u32 w3)), (60, (.int .i64 w60))] S (kLp (evC E call n 27 (E.at 27 [1, 1, 1, 1, 1, 1, 1, 1, 0, 1, 0, 0]) 0) [0, 1, 2, 3, 60] m1_1_1_1_1_1_1_1_0_1_0 (kBlk 0 (kSeq E call n 27 (E.at 27 [1, 1, 1, 1, 1, 1, 1, 1, 1]) 0 (retK E (E.fn 27)))))
theorem a27_j1_1_1_1 (call : CallA) (n : Nat)  (w0 : Option Pos) (w1 : Int) (w2 : Int) (w3 : Int) (S : AS) : r27_j1_1_1_1 call n  w0 w1 w2 w3 S = b27_j1_1_1_1 call n (r27_l1_1_1_1_1_1_1_1_0_1_0 call n  n) w0 w1 w2 w3 S := by kernel_rfl
theorem a27_l1_1_1_1_1_1_1_1_0_1_0 (call : CallA) (n : Nat)  (m : Nat) (w0 : Option Pos) (w1 : Int) (w2 : Int) (w3 : Int) (w60 : Int) (S : AS) : r27_l1_1_1_1_1_1_1_1_0_1_0 call n  (m + 1) w0 w1 w2 w3 w60 S = b27_l1_1_1_1_1_1_1_1_0_1_0 call n (r27_j1_1_1_1_1_1_1_1_0_1_0_0_1_1_1 call n m) w0 w1 w2 w3 w60 S := by kernel_rfl
theorem a27_j1_1_1_1_1_1_1_1_0_1_0_0_1_1_1 (call : CallA) (n : Nat) (m1_1_1_1_1_1_1_1_0_1_0 : Nat) (w0 : Option Pos) (w1 : Int) (w2 : Int) (w3 : Int) (w60 : Int) (S : AS) : r27_j1_1_1_1_1_1_1_1_0_1_0_0_1_1_1 call n m1_1_1_1_1_1_1_1_0_1_0 w0 w1 w2 w3 w60 S = b27_j1_1_1_1_1_1_1_1_0_1_0_0_1_1_1 call n (r27_l1_1_1_1_1_1_1_1_0_1_0 call n  m1_1_1_1_1_1_1_1_0_1_0) w0 w1 w2 w3 w60 S := by kernel_rfl
theorem a27_entry (call : CallA) (n : Nat) (x0 : Option Pos) (x1 : Int) (x2 : Int) (x3 : Int) (S : AS) : evC E call n 27 (E.at 27 []) 0 (enumT 0 [(.ptr x0), (.int .i64 x1), (.int .i64 x2), (.int .u32 x3)]) S (retK E (E.fn 27)) = b27_entry call n (r27_j1_1_1_1 call n ) x0 x1 x2 x3 S := by kernel_rfl
def J27_j1_1_1_1_1_1_1_1_0_1_0_0_1_1_1 (call : CallA) (n : Nat) (n1_1_1_1_1_1_1_1_0_1_0 : Option Pos → Int → Int → Int → Int → AS → Option (AV × AS)) (w0 : Option Pos) (w1 : Int) (w2 : Int) (w3 : Int) (w60 : Int) (S : AS) : Option (AV × AS) := b27_j1_1_1_1_1_1_1_1_0_1_0_0_1_1_1 call n n1_1_1_1_1_1_1_1_0_1_0 w0 w1 w2 w3 w60 S
theorem h27_j1_1_1_1_1_1_1_1_0_1_0_0_1_1_1 (call : CallA) (n : Nat) (m1_1_1_1_1_1_1_1_0_1_0 : Nat) : r27_j1_1_1_1_1_1_1_1_0_1_0_0_1_1_1 call n m1_1_1_1_1_1_1_1_0_1_0 = J27_j1_1_1_1_1_1_1_1_0_1_0_0_1_1_1 call n (r27_l1_1_1_1_1_1_1_1_0_1_0 call n  m1_1_1_1_1_1_1_1_0_1_0) := by
  funext w0 w1 w2 w3 w60 S
  rw [J27_j1_1_1_1_1_1_1_1_0_1_0_0_1_1_1, a27_j1_1_1_1_1_1_1_1_0_1_0_0_1_1_1]
def J27_l1_1_1_1_1_1_1_1_0_1_0 (call : CallA) (n : Nat)  (m : Nat) : Option Pos → Int → Int → Int → Int → AS → Option (AV × AS) := Nat.rec (motive := fun _ => Option Pos → Int → Int → Int → Int → AS → Option (AV × AS)) (fun _ _ _ _ _ _ => none) (fun _ ih w0 w1 w2 w3 w60 S => b27_l1_1_1_1_1_1_1_1_0_1_0 call n (J27_j1_1_1_1_1_1_1_1_0_1_0_0_1_1_1 call n ih) w0 w1 w2 w3 w60 S) m
theorem J27_l1_1_1_1_1_1_1_1_0_1_0_succ (call : CallA) (n : Nat)  (m : Nat) (w0 : Option Pos) (w1 : Int) (w2 : Int) (w3 : Int) (w60 : Int) (S : AS) : J27_l1_1_1_1_1_1_1_1_0_1_0 call n  (m + 1) w0 w1 w2 w3 w60 S = b27_l1_1_1_1_1_1_1_1_0_1_0 call n (J27_j1_1_1_1_1_1_1_1_0_1_0_0_1_1_1 call n (J27_l1_1_1_1_1_1_1_1_0_1_0 call n  m)) w0 w1 w2 w3 w60 S := rfl
theorem h27_l1_1_1_1_1_1_1_1_0_1_0 (call : CallA) (n : Nat)  (m : Nat) : r27_l1_1_1_1_1_1_1_1_0_1_0 call n  m = J27_l1_1_1_1_1_1_1_1_0_1_0 call n  m := by
  induction m with
  | zero => rfl
  | succ m ih =>
    funext w0 w1 w2 w3 w60 S
    rw [J27_l1_1_1_1_1_1_1_1_0_1_0_succ, a27_l1_1_1_1_1_1_1_1_0_1_0, h27_j1_1_1_1_1_1_1_1_0_1_0_0_1_1_1 call n m, ih]
def J27_j1_1_1_1 (call : CallA) (n : Nat)  (w0 : Option Pos) (w1 : Int) (w2 : Int) (w3 : Int) (S : AS) : Option (AV × AS) := b27_j1_1_1_1 call n (J27_l1_1_1_1_1_1_1_1_0_1_0 call n  n) w0 w1 w2 w3 S
theorem h27_j1_1_1_1 (call : CallA) (n : Nat)  : r27_j1_1_1_1 call n  = J27_j1_1_1_1 call n  := by
  funext w0 w1 w2 w3 S
  rw [J27_j1_1_1_1, a27_j1_1_1_1, h27_l1_1_1_1_1_1_1_1_0_1_0 call n  n]
def J27 (call : CallA) (n : Nat) (x0 : Option Pos) (x1 : Int) (x2 : Int) (x3 : Int) (S : AS) : Option (AV × AS) := b27_entry call n (J27_j1_1_1_1 call n ) x0 x1 x2 x3 S
theorem run27 (o : Orc) (n : Nat) (args : List AV) (S : AS) (ho : o 27 args = none) : evF E o (n + 1) (.fn 27) args S = evC E (evF E o n) n 27 (E.at 27 []) 0 (enumT 0 args) S (retK E (E.fn 27)) := by
  rw [evF, ho]; kernel_rfl
theorem J27_eq (call : CallA) (n : Nat) (x0 : Option Pos) (x1 : Int) (x2 : Int) (x3 : Int) (S : AS) : evC E call n 27 (E.at 27 []) 0 (enumT 0 [(.ptr x0), (.int .i64 x1), (.int .i64 x2), (.int .u32 x3)]) S (retK E (E.fn 27)) = J27 call n x0 x1 x2 x3 S := by
  rw [J27, a27_entry, h27_j1_1_1_1 call n ]
theorem F27 {o : Orc} (n : Nat) (x0 : Option Pos) (x1 : Int) (x2 : Int) (x3 : Int) (S : AS) (ho : ∀ args, o 27 args = none) : evF E o (n + 1) (.fn 27) [(.ptr x0), (.int .i64 x1), (.int .i64 x2), (.int .u32 x3)] S = J27 (evF E o n) n x0 x1 x2 x3 S := (run27 o n [(.ptr x0), (.int .i64 x1), (.int .i64 x2), (.int .u32 x3)] S (ho _)).trans (J27_eq _ _ x0 x1 x2 x3 S)
def b28_l1_1_1_0_1_0 (call : CallA) (n : Nat) (l1_1_1_0_1_0 : Option Pos → Int → Int → Int → Bool → Bool → Int → AS → Option (AV × AS)) (l1_1_1_1_1_1_1_0_1_0 : Option Pos → Int → Int → Int → Option Pos → Nat → Cap → Int → AS → Option (AV × AS)) (w0 : Option Pos) (w1 : Int) (w2 : Int) (w3 : Int) (w9 : Bool) (w10 : Bool) (w11 : Int) (S : AS) : Option (AV × AS) :=
 cond w10 (
 cond (decide (w11 < 32)) (
 cond w9 (
 l1_1_1_0_1_0 w0 w1 w2 w3 true w10 (IntKind.wrap .i64 (w11 + 1)) S) (
 nneg (IntKind.wrap .u64 w11) <|
 cond ((andI .u32 (shrI .u32 w3 (IntKind.wrap .u64 w11)) 1) == 1) (
 gO w0 fun p3 =>
 ldI .i64 S p3.1 (p3.2 + 5) fun v4 =>
 l1_1_1_0_1_0 w0 w1 w2 w3 (decide ((IntKind.wrap .i64 (w2 + w11)) < (IntKind.wrap .i64 (8 * v4)))) w10 (IntKind.wrap .i64 (w11 + 1)) S) (
 l1_1_1_0_1_0 w0 w1 w2 w3 false w10 (IntKind.wrap .i64 (w11 + 1)) S))) (
 cond w10 (
 callI .i64 call 49 [(.ptr w0), (.int .i64 w1), (.bool w9)] S fun v6 S5 =>
 cond (v6 != 0) (
 some ((.int .i64 v6), S5)) (
 gO w0 fun p7 =>
 ldL S5 p7.1 p7.2 fun v8a v8l v8c =>
 ixSl 1 v8a v8l w1 fun p9 =>
 ldS S5 p9.1 p9.2 fun v10 =>
 ifO (v10.length ≤ pow46) <|
 newA S5 (.cells (ofBytes v10)) fun b11 S12 =>
 l1_1_1_1_1_1_1_0_1_0 w0 w1 w2 w3 (some (.rw b11, 0)) v10.length (.op 1 v10.length) 0 S12)) (
 callI .i64 call 49 [(.ptr w0), (.int .i64 w1), (.bool false)] S fun v14 S13 =>
 cond (v14 != 0) (
 some ((.int .i64 v14), S13)) (
 gO w0 fun p15 =>
 ldL S13 p15.1 p15.2 fun v16a v16l v16c =>
 ixSl 1 v16a v16l w1 fun p17 =>
 ldS S13 p17.1 p17.2 fun v18 =>
 ifO (v18.length ≤ pow46) <|
 newA S13 (.cells (ofBytes v18)) fun b19 S20 =>
 l1_1_1_1_1_1_1_0_1_0 w0 w1 w2 w3 (some (.rw b19, 0)) v18.length (.op 1 v18.length) 0 S20)))) (
 cond w10 (
 callI .i64 call 49 [(.ptr w0), (.int .i64 w1), (.bool w9)] S fun v22 S21 =>
 cond (v22 != 0) (
 some ((.int .i64 v22), S21)) (
 gO w0 fun p23 =>
 ldL S21 p23.1 p23.2 fun v24a v24l v24c =>
 ixSl 1 v24a v24l w1 fun p25 =>
 ldS S21 p25.1 p25.2 fun v26 =>
 ifO (v26.length ≤ pow46) <|
 newA S21 (.cells (ofBytes v26)) fun b27 S28 =>
 l1_1_1_1_1_1_1_0_1_0 w0 w1 w2 w3 (some (.rw b27, 0)) v26.length (.op 1 v26.length) 0 S28)) (
 callI .i64 call 49 [(.ptr w0), (.int .i64 w1), (.bool false)] S fun v30 S29 =>
 cond (v30 != 0) (
 some ((.int .i64 v30), S29)) (
 gO w0 fun p31 =>
 ldL S29 p31.1 p31.2 fun v32a v32l v32c =>
 ixSl 1 v32a v32l w1 fun p33 =>
 ldS S29 p33.1 p33.2 fun v34 =>
 ifO (v34.length ≤ pow46) <|
 newA S29 (.cells (ofBytes v34)) fun b35 S36 =>
 l1_1_1_1_1_1_1_0_1_0 w0 w1 w2 w3 (some (.rw b35, 0)) v34.length (.op 1 v34.length) 0 S36)))

def b28_l1_1_1_1_1_1_1_0_1_0 (call : CallA) (n : Nat) (l1_1_1_1_1_1_1_0_1_0 : Option Pos → Int → Int → Int → Option Pos → Nat → Cap → Int → AS → Option (AV × AS)) (w0 : Option Pos) (w1 : Int) (w2 : Int) (w3 : Int) (w13a : Option Pos) (w13l : Nat) (w13c : Cap) (w14 : Int) (S : AS) : Option (AV × AS) :=
 cond (decide (w14 < 32)) (
 nneg (IntKind.wrap .u64 w14) <|
 cond ((andI .u32 (shrI .u32 w3 (IntKind.wrap .u64 w14)) 1) == 1) (
 gO w0 fun p37 =>
 ldI .i64 S p37.1 (p37.2 + 5) fun v38 =>
 cond (decide ((IntKind.wrap .i64 (w2 + w14)) < (IntKind.wrap .i64 (8 * v38)))) (
 ixSl 1 w13a w13l (IntKind.wrap .i64 (Int.tdiv (IntKind.wrap .i64 (w2 + w14)) 8)) fun p39 =>
 ldI .u8 S p39.1 p39.2 fun v40 =>
 nneg (IntKind.wrap .u64 (Int.tmod (IntKind.wrap .i64 (w2 + w14)) 8)) <|
 ixSl 1 w13a w13l (IntKind.wrap .i64 (Int.tdiv (IntKind.wrap .i64 (w2 + w14)) 8)) fun p41 =>
 S.stn p41.1 p41.2 [(.int .u8 (xorI .u8 v40 (shlI .u8 1 (IntKind.wrap .u64 (Int.tmod (IntKind.wrap .i64 (w2 + w14)) 8)))))] fun S42 =>
 l1_1_1_1_1_1_1_0_1_0 w0 w1 w2 w3 w13a w13l w13c (IntKind.wrap .i64 (w14 + 1)) S42) (
 l1_1_1_1_1_1_1_0_1_0 w0 w1 w2 w3 w13a w13l w13c (IntKind.wrap .i64 (w14 + 1)) S)) (
 l1_1_1_1_1_1_1_0_1_0 w0 w1 w2 w3 w13a w13l w13c (IntKind.wrap .i64 (w14 + 1)) S)) (
 gO w0 fun p43 =>
 ldL S p43.1 p43.2 fun v44a v44l v44c =>
 bytesStr S w13a w13l fun s45 =>
 ixSl 1 v44a v44l w1 fun p46 =>
 S.stn p46.1 p46.2 [(.str s45)] fun S47 =>
 gO w0 fun p48 =>
 ldL S47 p48.1 (p48.2 + 1) fun v49a v49l v49c =>
 ixSl 1 v49a v49l w1 fun p50 =>
 S47.stn p50.1 p50.2 [(.int .i64 2)] fun S51 =>
 some ((.int .i64 0), S51))

def b28_entry (call : CallA) (n : Nat) (l1_1_1_0_1_0 : Option Pos → Int → Int → Int → Bool → Bool → Int → AS → Option (AV × AS)) (x0 : Option Pos) (x1 : Int) (x2 : Int) (x3 : Int) (S : AS) : Option (AV × AS) :=
 cond (decide (x2 ≥ 0)) (
 gO x0 fun p1 =>
 ldI .i64 S p1.1 (p1.2 + 5) fun v2 =>
 l1_1_1_0_1_0 x0 x1 x2 x3 false (decide (x2 < (IntKind.wrap .i64 (8 * v2)))) 0 S) (
 l1_1_1_0_1_0 x0 x1 x2 x3 false false 0 S)

def r28_l1_1_1_0_1_0 (call : CallA) (n : Nat)  (m : Nat) (w0 : Option Pos) (w1 : Int) (w2 : Int) (w3 : Int) (w9 : Bool) (w10 : Bool) (w11 : Int) (S : AS) : Option (AV × AS) := loopN (evC E call n 28 (E.at 28 [1, 1, 1, 0, 1, 0, 0]) 0) [0, 1, 2, 3, 9, 10, 11] m [(0, (.ptr w0)), (1, (.int .i64 w1)), (2, (.int .i64 w2)), (3, (.int .u32 w3)), (9, (.bool w9)), (10, (.bool w10)), (11, (.int .i64 w11))] S (kBlk 0 (kSeq E call n 28 (E.at 28 [1, 1, 1, 1]) 0 (retK E (E.fn 28))))
def r28_l1_1_1_1_1_1_1_0_1_0 (call : CallA) (n : Nat)  (m : Nat) (w0 : Option Pos) (w1 : Int) (w2 : Int) (w3 : Int) (w13a : Option Pos) (w13l : Nat) (w13c : Cap) (w14 : Int) (S : AS) : Option (AV × AS) := loopN (evC E call n 28 (E.at 28 [1, 1, 1, 1, 1, 1, 1, 0, 1, 0, 0]) 2) [0, 1, 2, 3, 13, 14] m [(0, (.ptr w0)), (1, (.int .i64 w1)), (2, (.int .i64 w2)), (3, (.int .u32 w3)), (13, (.sl w13a w13l w13c)), (14, (.int .i64 w14))] S (kBlk 2 (kSeq E call n 28 (E.at 28 [1, 1, 1, 1, 1, 1, 1, 1]) 0 (retK E (E.fn 28))))
theorem a28_l1_1_1_0_1_0 (call : CallA) (n : Nat)  (m : Nat) (w0 : Option Pos) (w1 : Int) (w2 : Int) (w3 : Int) (w9 : Bool) (w10 : Bool) (w11 : Int) (S : AS) : r28_l1_1_1_0_1_0 call n  (m + 1) w0 w1 w2 w3 w9 w10 w11 S = b28_l1_1_1_0_1_0 call n (r28_l1_1_1_0_1_0 call n  m) (r28_l1_1_1_1_1_1_1_0_1_0 call n  n) w0 w1 w2 w3 w9 w10 w11 S := by kernel_rfl
theorem a28_l1_1_1_1_1_1_1_0_1_0 (call : CallA) (n : Nat)  (m : Nat) (w0 : Option Pos) (w1 : Int) (w2 : Int) (w3 : Int) (w13a : Option Pos) (w13l : Nat) (w13c : Cap) (w14 : Int) (S : AS) : r28_l1_1_1_1_1_1_1_0_1_0 call n  (m + 1) w0 w1 w2 w3 w13a w13l w13c w14 S = b28_l1_1_1_1_1_1_1_0_1_0 call n (r28_l1_1_1_1_1_1_1_0_1_0 call n  m) w0 w1 w2 w3 w13a w13l w13c w14 S := by kernel_rfl
theorem a28_entry (call : CallA) (n : Nat) (x0 : Option Pos) (x1 : Int) (x2 : Int) (x3 : Int) (S : AS) : evC E call n 28 (E.at 28 []) 0 (enumT 0 [(.ptr x0), (.int .i64 x1), (.int .i64 x2), (.int .u32 x3)]) S (retK E (E.fn 28)) = b28_entry call n (r28_l1_1_1_0_1_0 call n  n) x0 x1 x2 x3 S := by kernel_rfl
def J28_l1_1_1_1_1_1_1_0_1_0 (call : CallA) (n : Nat)  (m : Nat) : Option Pos → Int → Int → Int → Option Pos → Nat → Cap → Int → AS → Option (AV × AS) := Nat.rec (motive := fun _ => Option Pos → Int → Int → Int → Option Pos → Nat → Cap → Int → AS → Option (AV × AS)) (fun _ _ _ _ _ _ _ _ _ => none) (fun _ ih w0 w1 w2 w3 w13a w13l w13c w14 S => b28_l1_1_1_1_1_1_1_0_1_0 call n ih w0 w1 w2 w3 w13a w13l w13c w14 S) m
theorem J28_l1_1_1_1_1_1_1_0_1_0_succ (call : CallA) (n : Nat)  (m : Nat) (w0 : Option Pos) (w1 : Int) (w2 : Int) (w3 : Int) (w13a : Option Pos) (w13l : Nat) (w13c : Cap) (w14 : Int) (S : AS) : J28_l1_1_1_1_1_1_1_0_1_0 call n  (m + 1) w0 w1 w2 w3 w13a w13l w13c w14 S = b28_l1_1_1_1_1_1_1_0_1_0 call n (J28_l1_1_1_1_1_1_1_0_1_0 call n  m) w0 w1 w2 w3 w13a w13l w13c w14 S := rfl
theorem h28_l1_1_1_1_1_1_1_0_1_0 (call : CallA) (n : Nat)  (m : Nat) : r28_l1_1_1_1_1_1_1_0_1_0 call n  m = J28_l1_1_1_1_1_1_1_0_1_0 call n  m := by
  induction m with
  | zero => rfl
  | succ m ih =>
    funext w0 w1 w2 w3 w13a w13l w13c w14 S
    rw [J28_l1_1_1_1_1_1_1_0_1_0_succ, a28_l1_1_1_1_1_1_1_0_1_0, ih]
def J28_l1_1_1_0_1_0 (call : CallA) (n : Nat)  (m : Nat) : Option Pos → Int → Int → Int → Bool → Bool → Int → AS → Option (AV × AS) := Nat.rec (motive := fun _ => Option Pos → Int → Int → Int → Bool → Bool → Int → AS → Option (AV × AS)) (fun _ _ _ _ _ _ _ _ => none) (fun _ ih w0 w1 w2 w3 w9 w10 w11 S => b28_l1_1_1_0_1_0 call n ih (J28_l1_1_1_1_1_1_1_0_1_0 call n  n) w0 w1 w2 w3 w9 w10 w11 S) m
theorem J28_l1_1_1_0_1_0_succ (call : CallA) (n : Nat)  (m : Nat) (w0 : Option Pos) (w1 : Int) (w2 : Int) (w3 : Int) (w9 : Bool) (w10 : Bool) (w11 : Int) (S : AS) : J28_l1_1_1_0_1_0 call n  (m + 1) w0 w1 w2 w3 w9 w10 w11 S = b28_l1_1_1_0_1_0 call n (J28_l1_1_1_0_1_0 call n  m) (J28_l1_1_1_1_1_1_1_0_1_0 call n  n) w0 w1 w2 w3 w9 w10 w11 S := rfl
theorem h28_l1_1_1_0_1_0 (call : CallA) (n : Nat)  (m : Nat) : r28_l1_1_1_0_1_0 call n  m = J28_l1_1_1_0_1_0 call n  m := by
  induction m with
  | zero => rfl
  | succ m ih =>
    funext w0 w1 w2 w3 w9 w10 w11 S
    rw [J28_l1_1_1_0_1_0_succ, a28_l1_1_1_0_1_0, h28_l1_1_1_1_1_1_1_0_1_0 call n  n, ih]
def J28 (call : CallA) (n : Nat) (x0 : Option Pos) (x1 : Int) (x2 : Int) (x3 : Int) (S : AS) : Option (AV × AS) := b28_entry call n (J28_l1_1_1_0_1_0 call n  n) x0 x1 x2 x3 S
theorem run28 (o : Orc) (n : Nat) (args : List AV) (S : AS) (ho : o 28 args = none) : evF E o (n + 1) (.fn 28) args S = evC E (evF E o n) n 28 (E.at 28 []) 0 (enumT 0 args) S (retK E (E.fn 28)) := by
  rw [evF, ho]; kernel_rfl
theorem J28_eq (call : CallA) (n : Nat) (x0 : Option Pos) (x1 : Int) (x2 : Int) (x3 : Int) (S : AS) : evC E call n 28 (E.at 28 []) 0 (enumT 0 [(.ptr x0), (.int .i64 x1), (.int .i64 x2), (.int .u32 x3)]) S (retK E (E.fn 28)) = J28 call n x0 x1 x2 x3 S := by
  rw [J28, a28_entry, h28_l1_1_1_0_1_0 call n  n]
theorem F28 {o : Orc} (n : Nat) (x0 : Option Pos) (x1 : Int) (x2 : Int) (x3 : Int) (S : AS) (ho : ∀ args, o 28 args = none) : evF E o (n + 1) (.fn 28) [(.ptr x0), (.int .i64 x1), (.int .i64 x2), (.int .u32 x3)] S = J28 (evF E o n) n x0 x1 x2 x3 S := (run28 o n [(.ptr x0), (.int .i64 x1), (.int .i64 x2), (.int .u32 x3)] S (ho _)).trans (J28_eq _ _ x0 x1 x2 x3 S)
def b29_entry (call : CallA) (n : Nat)  (x0 : Option Pos) (x1 : Int) (S : AS) : Option (AV × AS) :=
 cond x0.isNone (
 some ((.int .i64 7), S)) (
 callB call 40 [(.ptr x0), (.int .i64 x1)] S fun v2 S1 =>
 cond (!v2) (
 some ((.int .i64 2), S1)) (
 callI .i64 call 48 [(.ptr x0), (.int .i64 x1)] S1 fun v4 S3 =>
 cond (v4 == 0) (
 gO x0 fun p5 =>
 ldL S3 p5.1 (p5.2 + 1) fun v6a v6l v6c =>
 ixSl 513 v6a v6l x1 fun p7 =>
 S3.stn p7.1 (p7.2 + 512) [(.int .i64 1)] fun S8 =>
 some ((.int .i64 v4), S8)) (
 some ((.int .i64 v4), S3))))

theorem a29_entry (call : CallA) (n : Nat) (x0 : Option Pos) (x1 : Int) (S : AS) : evC E call n 29 (E.at 29 []) 0 (enumT 0 [(.ptr x0), (.int .i64 x1)]) S (retK E (E.fn 29)) = b29_entry call n  x0 x1 S := by kernel_rfl
def J29 (call : CallA) (n : Nat) (x0 : Option Pos) (x1 : Int) (S : AS) : Option (AV × AS) := b29_entry call n  x0 x1 S
theorem run29 (o : Orc) (n : Nat) (args : List AV) (S : AS) (ho : o 29 args = none) : evF E o (n + 1) (.fn 29) args S = evC E (evF E o n) n 29 (E.at 29 []) 0 (enumT 0 args) S (retK E (E.fn 29)) := by
  rw [evF, ho]; kernel_rfl
theorem J29_eq (call : CallA) (n : Nat) (x0 : Option Pos) (x1 : Int) (S : AS) : evC E call n 29 (E.at 29 []) 0 (enumT 0 [(.ptr x0), (.int .i64 x1)]) S (retK E (E.fn 29)) = J29 call n x0 x1 S := by
  rw [J29, a29_entry]
theorem F29 {o : Orc} (n : Nat) (x0 : Option Pos) (x1 : Int) (S : AS) (ho : ∀ args, o 29 args = none) : evF E o (n + 1) (.fn 29) [(.ptr x0), (.int .i64 x1)] S = J29 (evF E o n) n x0 x1 S := (run29 o n [(.ptr x0), (.int .i64 x1)] S (ho _)).trans (J29_eq _ _ x0 x1 S)
end
end Go.Dk
