/- Plain readings of the functions, and that they are what the evaluator does: by program. -/
import Derived.Test.YtmehlagfkmnipaaGrRes
import Derived.Test.YtmehlagfkmnipaaENV
import Derived.KernelRfl
set_option maxRecDepth 100000
set_option linter.unusedVariables false
namespace Go.Dk
open Go.Gr
noncomputable section
def b30_l1_1_0_1_0 (call : CallA) (n : Nat) (l1_1_0_1_0 : Option Pos → Nat → Cap → Option Pos → Nat → Cap → Bool → Int → AS → Option (AV × AS)) (w0a : Option Pos) (w0l : Nat) (w0c : Cap) (w1a : Option Pos) (w1l : Nat) (w1c : Cap) (w4 : Bool) (w5 : Int) (S : AS) : Option (AV × AS) :=
 cond (decide (w5 < ((w0l : Nat) : Int))) (
 ixSl 2 w0a w0l w5 fun p1 =>
 S.ldn p1.1 p1.2 2 fun g2 =>
 ixSl 2 w1a w1l w5 fun p3 =>
 S.ldn p3.1 p3.2 2 fun g4 =>
 aggNe ty52 g2 g4 fun b5 =>
 cond b5 (
 some ((.bool false), S)) (
 l1_1_0_1_0 w0a w0l w0c w1a w1l w1c w4 (IntKind.wrap .i64 (w5 + 1)) S)) (
 some ((.bool true), S))

def b30_entry (call : CallA) (n : Nat) (l1_1_0_1_0 : Option Pos → Nat → Cap → Option Pos → Nat → Cap → Bool → Int → AS → Option (AV × AS)) (x0a : Option Pos) (x0l : Nat) (x0c : Cap) (x1a : Option Pos) (x1l : Nat) (x1c : Cap) (S : AS) : Option (AV × AS) :=
 cond (((x0l : Nat) : Int) != ((x1l : Nat) : Int)) (
 some ((.bool false), S)) (
 l1_1_0_1_0 x0a x0l x0c x1a x1l x1c false 0 S)

def r30_l1_1_0_1_0 (call : CallA) (n : Nat)  (m : Nat) (w0a : Option Pos) (w0l : Nat) (w0c : Cap) (w1a : Option Pos) (w1l : Nat) (w1c : Cap) (w4 : Bool) (w5 : Int) (S : AS) : Option (AV × AS) := loopN (evC E call n 30 (E.at 30 [1, 1, 0, 1, 0, 0]) 0) [0, 1, 4, 5] m [(0, (.sl w0a w0l w0c)), (1, (.sl w1a w1l w1c)), (4, (.bool w4)), (5, (.int .i64 w5))] S (kBlk 0 (kSeq E call n 30 (E.at 30 [1, 1, 1]) 0 (retK E (E.fn 30))))
theorem a30_l1_1_0_1_0 (call : CallA) (n : Nat)  (m : Nat) (w0a : Option Pos) (w0l : Nat) (w0c : Cap) (w1a : Option Pos) (w1l : Nat) (w1c : Cap) (w4 : Bool) (w5 : Int) (S : AS) : r30_l1_1_0_1_0 call n  (m + 1) w0a w0l w0c w1a w1l w1c w4 w5 S = b30_l1_1_0_1_0 call n (r30_l1_1_0_1_0 call n  m) w0a w0l w0c w1a w1l w1c w4 w5 S := by kernel_rfl
theorem a30_entry (call : CallA) (n : Nat) (x0a : Option Pos) (x0l : Nat) (x0c : Cap) (x1a : Option Pos) (x1l : Nat) (x1c : Cap) (S : AS) : evC E call n 30 (E.at 30 []) 0 (enumT 0 [(.sl x0a x0l x0c), (.sl x1a x1l x1c)]) S (retK E (E.fn 30)) = b30_entry call n (r30_l1_1_0_1_0 call n  n) x0a x0l x0c x1a x1l x1c S := by kernel_rfl
def J30_l1_1_0_1_0 (call : CallA) (n : Nat)  (m : Nat) : Option Pos → Nat → Cap → Option Pos → Nat → Cap → Bool → Int → AS → Option (AV × AS) := Nat.rec (motive := fun _ => Option Pos → Nat → Cap → Option Pos → Nat → Cap → Bool → Int → AS → Option (AV × AS)) (fun _ _ _ _ _ _ _ _ _ => none) (fun _ ih w0a w0l w0c w1a w1l w1c w4 w5 S => b30_l1_1_0_1_0 call n ih w0a w0l w0c w1a w1l w1c w4 w5 S) m
theorem J30_l1_1_0_1_0_succ (call : CallA) (n : Nat)  (m : Nat) (w0a : Option Pos) (w0l : Nat) (w0c : Cap) (w1a : Option Pos) (w1l : Nat) (w1c : Cap) (w4 : Bool) (w5 : Int) (S : AS) : J30_l1_1_0_1_0 call n  (m + 1) w0a w0l w0c w1a w1l w1c w4 w5 S = b30_l1_1_0_1_0 call n (J30_l1_1_0_1_0 call n  m) w0a w0l w0c w1a w1l w1c w4 w5 S := rfl
theorem h30_l1_1_0_1_0 (call : CallA) (n : Nat)  (m : Nat) : r30_l1_1_0_1_0 call n  m = J30_l1_1_0_1_0 call n  m := by
  induction m with
  | zero => rfl
  | succ m ih =>
    funext w0a w0l w0c w1a w1l w1c w4 w5 S
    rw [J30_l1_1_0_1_0_succ, a30_l1_1_0_1_0, ih]
def J30 (call : CallA) (n : Nat) (x0a : Option Pos) (x0l : Nat) (x0c : Cap) (x1a : Option Pos) (x1l : Nat) (x1c : Cap) (S : AS) : Option (AV × AS) := b30_entry call n (J30_l1_1_0_1_0 call n  n) x0a x0l x0c x1a x1l x1c S
theorem run30 (o : Orc) (n : Nat) (args : List AV) (S : AS) (ho : o 30 args = none) : evF E o (n + 1) (.fn 30) args S = evC E (evF E o n) n 30 (E.at 30 []) 0 (enumT 0 args) S (retK E (E.fn 30)) := by
  rw [evF, ho]; kernel_rfl
theorem J30_eq (call : CallA) (n : Nat) (x0a : Option Pos) (x0l : Nat) (x0c : Cap) (x1a : Option Pos) (x1l : Nat) (x1c : Cap) (S : AS) : evC E call n 30 (E.at 30 []) 0 (enumT 0 [(.sl x0a x0l x0c), (.sl x1a x1l x1c)]) S (retK E (E.fn 30)) = J30 call n x0a x0l x0c x1a x1l x1c S := by
  rw [J30, a30_entry, h30_l1_1_0_1_0 call n  n]
theorem F30 {o : Orc} (n : Nat) (x0a : Option Pos) (x0l : Nat) (x0c : Cap) (x1a : Option Pos) (x1l : Nat) (x1c : Cap) (S : AS) (ho : ∀ args, o 30 args = none) : evF E o (n + 1) (.fn 30) [(.sl x0a x0l x0c), (.sl x1a x1l x1c)] S = J30 (evF E o n) n x0a x0l x0c x1a x1l x1c S := (run30 o n [(.sl x0a x0l x0c), (.sl x1a x1l x1c)] S (ho _)).trans (J30_eq _ _ x0a x0l x0c x1a x1l x1c S)
def b31_entry (call : CallA) (n : Nat)  (x0 : Option Pos) (S : AS) : Option (AV × AS) :=
 cond (!x0.isNone) (
 gO x0 fun p1 =>
 ldB S p1.1 (p1.2 + 3) fun v2 =>
 some ((.bool v2), S)) (
 some ((.bool false), S))

theorem a31_entry (call : CallA) (n : Nat) (x0 : Option Pos) (S : AS) : evC E call n 31 (E.at 31 []) 0 (enumT 0 [(.ptr x0)]) S (retK E (E.fn 31)) = b31_entry call n  x0 S := by kernel_rfl
def J31 (call : CallA) (n : Nat) (x0 : Option Pos) (S : AS) : Option (AV × AS) := b31_entry call n  x0 S
theorem run31 (o : Orc) (n : Nat) (args : List AV) (S : AS) (ho : o 31 args = none) : evF E o (n + 1) (.fn 31) args S = evC E (evF E o n) n 31 (E.at 31 []) 0 (enumT 0 args) S (retK E (E.fn 31)) := by
  rw [evF, ho]; kernel_rfl
theorem J31_eq (call : CallA) (n : Nat) (x0 : Option Pos) (S : AS) : evC E call n 31 (E.at 31 []) 0 (enumT 0 [(.ptr x0)]) S (retK E (E.fn 31)) = J31 call n x0 S := by
  rw [J31, a31_entry]
theorem F31 {o : Orc} (n : Nat) (x0 : Option Pos) (S : AS) (ho : ∀ args, o 31 args = none) : evF E o (n + 1) (.fn 31) [(.ptr x0)] S = J31 (evF E o n) n x0 S := (run31 o n [(.ptr x0)] S (ho _)).trans (J31_eq _ _ x0 S)
def b32_l1_1_0_1_0 (call : CallA) (n : Nat) (j1_1_0_1_0_0_1_1_1 : Option Pos → Option Pos → Nat → Cap → Option Pos → Nat → Cap → Int → Int → AS → Option (AV × AS)) (j1_1_1 : Option Pos → Option Pos → Nat → Cap → AS → Option (AV × AS)) (w0 : Option Pos) (w4a : Option Pos) (w4l : Nat) (w4c : Cap) (w17a : Option Pos) (w17l : Nat) (w17c : Cap) (w18 : Int) (w19 : Int) (S : AS) : Option (AV × AS) :=
 cond (decide (w19 < w18)) (
 ixSl 1 w17a w17l w19 fun p7 =>
 ldI .i64 S p7.1 p7.2 fun v8 =>
 cond (decide (v8 ≥ 0)) (
 cond (decide (v8 < ((w4l : Nat) : Int))) (
 ixSl 1 w4a w4l v8 fun p9 =>
 S.stn p9.1 p9.2 [(.bool true)] fun S10 =>
 j1_1_0_1_0_0_1_1_1 w0 w4a w4l w4c w17a w17l w17c w18 w19 S10) (
 j1_1_0_1_0_0_1_1_1 w0 w4a w4l w4c w17a w17l w17c w18 w19 S)) (
 j1_1_0_1_0_0_1_1_1 w0 w4a w4l w4c w17a w17l w17c w18 w19 S)) (
 j1_1_1 w0 w4a w4l w4c S)

def b32_j1_1_0_1_0_0_1_1_1 (call : CallA) (n : Nat) (l1_1_0_1_0 : Option Pos → Option Pos → Nat → Cap → Option Pos → Nat → Cap → Int → Int → AS → Option (AV × AS)) (w0 : Option Pos) (w4a : Option Pos) (w4l : Nat) (w4c : Cap) (w17a : Option Pos) (w17l : Nat) (w17c : Cap) (w18 : Int) (w19 : Int) (S : AS) : Option (AV × AS) :=
 l1_1_0_1_0 w0 w4a w4l w4c w17a w17l w17c w18 (IntKind.wrap .i64 (w19 + 1)) S

def b32_j1_1_1 (call : CallA) (n : Nat) (l1_1_1_0_1_0 : Option Pos → Option Pos → Nat → Cap → Option Pos → Nat → Cap → Int → Int → AS → Option (AV × AS)) (w0 : Option Pos) (w4a : Option Pos) (w4l : Nat) (w4c : Cap) (S : AS) : Option (AV × AS) :=
 gO w0 fun p11 =>
 ldL S p11.1 (p11.2 + 2) fun v12a v12l v12c =>
 l1_1_1_0_1_0 w0 w4a w4l w4c v12a v12l v12c ((v12l : Nat) : Int) 0 S

def b32_l1_1_1_0_1_0 (call : CallA) (n : Nat) (j1_1_1_0_1_0_0_1_1_1 : Option Pos → Option Pos → Nat → Cap → Option Pos → Nat → Cap → Int → Int → AS → Option (AV × AS)) (j1_1_1_1 : Option Pos → AS → Option (AV × AS)) (w0 : Option Pos) (w4a : Option Pos) (w4l : Nat) (w4c : Cap) (w38a : Option Pos) (w38l : Nat) (w38c : Cap) (w39 : Int) (w40 : Int) (S : AS) : Option (AV × AS) :=
 cond (decide (w40 < w39)) (
 ixSl 2 w38a w38l w40 fun p13 =>
 S.ldn p13.1 p13.2 2 fun g14 =>
 newA S (.cells [(.int .i64 0), (.str ([]))]) fun b15 S16 =>
 ifO (g14.length = 2) <|
 S16.stn (.rw b15) 0 g14 fun S17 =>
 ixSl 1 w4a w4l w40 fun p18 =>
 ldB S17 p18.1 p18.2 fun v19 =>
 cond v19 (
 S17.ldn (.rw b15) 0 2 fun g20 =>
 callT call 44 [(.ptr w0), (.agg g20)] S17 fun v22 S21 =>
 j1_1_1_0_1_0_0_1_1_1 w0 w4a w4l w4c w38a w38l w38c w39 w40 S21) (
 j1_1_1_0_1_0_0_1_1_1 w0 w4a w4l w4c w38a w38l w38c w39 w40 S17)) (
 j1_1_1_1 w0 S)

def b32_j1_1_1_0_1_0_0_1_1_1 (call : CallA) (n : Nat) (l1_1_1_0_1_0 : Option Pos → Option Pos → Nat → Cap → Option Pos → Nat → Cap → Int → Int → AS → Option (AV × AS)) (w0 : Option Pos) (w4a : Option Pos) (w4l : Nat) (w4c : Cap) (w38a : Option Pos) (w38l : Nat) (w38c : Cap) (w39 : Int) (w40 : Int) (S : AS) : Option (AV × AS) :=
 l1_1_1_0_1_0 w0 w4a w4l w4c w38a w38l w38c w39 (IntKind.wrap .i64 (w40 + 1)) S

def b32_j1_1_1_1 (call : CallA) (n : Nat)  (w0 : Option Pos) (S : AS) : Option (AV × AS) :=
 gO w0 fun p23 =>
 S.stn p23.1 (p23.2 + 2) [(.sl none 0 (.ex 0))] fun S24 =>
 some (.tup [], S24)

def b32_entry (call : CallA) (n : Nat) (l1_1_0_1_0 : Option Pos → Option Pos → Nat → Cap → Option Pos → Nat → Cap → Int → Int → AS → Option (AV × AS)) (x0 : Option Pos) (x1a : Option Pos) (x1l : Nat) (x1c : Cap) (S : AS) : Option (AV × AS) :=
 cond x0.isNone (
 some (.tup [], S)) (
 gO x0 fun p1 =>
 ldL S p1.1 (p1.2 + 2) fun v2a v2l v2c =>
 mkSl 1 ((v2l : Nat) : Int) ((v2l : Nat) : Int) fun l5 c6 =>
 newA S (.cells (zeros c6 [(.bool false)])) fun b3 S4 =>
 l1_1_0_1_0 x0 (some (.rw b3, 0)) l5 (.ex c6) x1a x1l x1c ((x1l : Nat) : Int) 0 S4)

def r32_l1_1_0_1_0 (call : CallA) (n : Nat)  (m : Nat) (w0 : Option Pos) (w4a : Option Pos) (w4l : Nat) (w4c : Cap) (w17a : Option Pos) (w17l : Nat) (w17c : Cap) (w18 : Int) (w19 : Int) (S : AS) : Option (AV × AS) := loopN (evC E call n 32 (E.at 32 [1, 1, 0, 1, 0, 0]) 0) [0, 4, 17, 18, 19] m [(0, (.ptr w0)), (4, (.sl w4a w4l w4c)), (17, (.sl w17a w17l w17c)), (18, (.int .i64 w18)), (19, (.int .i64 w19))] S (kBlk 0 (kSeq E call n 32 (E.at 32 [1, 1, 1]) 0 (retK E (E.fn 32))))
def r32_j1_1_0_1_0_0_1_1_1 (call : CallA) (n : Nat) (m1_1_0_1_0 : Nat) (w0 : Option Pos) (w4a : Option Pos) (w4l : Nat) (w4c : Cap) (w17a : Option Pos) (w17l : Nat) (w17c : Cap) (w18 : Int) (w19 : Int) (S : AS) : Option (AV × AS) := evC E call n 32 (E.at 32 [1, 1, 0, 1, 0, 0, 1, 1, 1]) 0 [(0, (.ptr w0)), (4, (.sl w4a w4l w4c)), (17, (.sl w17a w17l w17c)), (18, (.int .i64 w18)), (19, (.int .i64 w19))] S (kLp (evC E call n 32 (E.at 32 [1, 1, 0, 1, 0, 0]) 0) [0, 4, 17, 18, 19] m1_1_0_1_0 (kBlk 0 (kSeq E call n 32 (E.at 32 [1, 1, 1]) 0 (retK E (E.fn 32)))))
def r32_j1_1_1 (call : CallA) (n : Nat)  (w0 : Option Pos) (w4a : Option Pos) (w4l : Nat) (w4c : Cap) (S : AS) : Option (AV × AS) := evC E call n 32 (E.at 32 [1, 1, 1]) 0 [(0, (.ptr w0)), (4, (.sl w4a w4l w4c))] S (retK E (E.fn 32))
def r32_l1_1_1_0_1_0 (call : CallA) (n : Nat)  (m : Nat) (w0 : Option Pos) (w4a : Option Pos) (w4l : Nat) (w4c : Cap) (w38a : Option Pos) (w38l : Nat) (w38c : Cap) (w39 : Int) (w40 : Int) (S : AS) : Option (AV × AS) := loopN (evC E call n 32 (E.at 32 [1, 1, 1, 0, 1, 0, 0]) 2) [0, 4, 38, 39, 40] m [(0, (.ptr w0)), (4, (.sl w4a w4l w4c)), (38, (.sl w38a w38l w38c)), (39, (.int .i64 w39)), (40, (.int .i64 w40))] S (kBlk 2 (kSeq E call n 32 (E.at 32 [1, 1, 1, 1]) 0 (retK E (E.fn 32))))
def r32_j1_1_1_0_1_0_0_1_1_1 (call : CallA) (n : Nat) (m1_1_1_0_1_0 : Nat) (w0 : Option Pos) (w4a : Option Pos) (w4l : Nat) (w4c : Cap) (w38a : Option Pos) (w38l : Nat) (w38c : Cap) (w39 : Int) (w40 : Int) (S : AS) : Option (AV × AS) := evC E call n 32 (E.at 32 [1, 1, 1, 0, 1, 0, 0, 1, 1, 1]) 2 [(0, (.ptr w0)), (4, (.sl w4a w4l w4c)), (38, (.sl w38a w38l w38c)), (39, (.int .i64 w39)), (40, (.int .i64 w40))] S (kLp (evC E call n 32 (E.at 32 [1, 1, 1, 0, 1, 0, 0]) 2) [0, 4, 38, 39, 40] m1_1_1_0_1_0 (kBlk 2 (kSeq E call n 32 (E.at 32 [1, 1, 1, 1]) 0 (retK E (E.fn 32)))))
def r32_j1_1_1_1 (call : CallA) (n : Nat)  (w0 : Option Pos) (S : AS) : Option (AV × AS) := evC E call n 32 (E.at 32 [1, 1, 1, 1]) 0 [(0, (.ptr w0))] S (retK E (E.fn 32))
theorem a32_l1_1_0_1_0 (call : CallA) (n : Nat)  (m : Nat) (w0 : Option Pos) (w4a : Option Pos) (w4l : Nat) (w4c : Cap) (w17a : Option Pos) (w17l : Nat) (w17c : Cap) (w18 : Int) (w19 : Int) (S : AS) : r32_l1_1_0_1_0 call n  (m + 1) w0 w4a w4l w4c w17a w17l w17c w18 w19 S = b32_l1_1_0_1_0 call n (r32_j1_1_0_1_0_0_1_1_1 call n m) (r32_j1_1_1 call n ) w0 w4a w4l w4c w17a w17l w17c w18 w19 S := by kernel_rfl
theorem a32_j1_1_0_1_0_0_1_1_1 (call : CallA) (n : Nat) (m1_1_0_1_0 : Nat) (w0 : Option Pos) (w4a : Option Pos) (w4l : Nat) (w4c : Cap) (w17a : Option Pos) (w17l : Nat) (w17c : Cap) (w18 : Int) (w19 : Int) (S : AS) : r32_j1_1_0_1_0_0_1_1_1 call n m1_1_0_1_0 w0 w4a w4l w4c w17a w17l w17c w18 w19 S = b32_j1_1_0_1_0_0_1_1_1 call n (r32_l1_1_0_1_0 call n  m1_1_0_1_0) w0 w4a w4l w4c w17a w17l w17c w18 w19 S := by kernel_rfl
theorem a32_j1_1_1 (call : CallA) (n : Nat)  (w0 : Option Pos) (w4a : Option Pos) (w4l : Nat) (w4c : Cap) (S : AS) : r32_j1_1_1 call n  w0 w4a w4l w4c S = b32_j1_1_1 call n (r32_l1_1_1_0_1_0 call n  n) w0 w4a w4l w4c S := by kernel_rfl
theorem a32_l1_1_1_0_1_0 (call : CallA) (n : Nat)  (m : Nat) (w0 : Option Pos) (w4a : Option Pos) (w4l : Nat) (w4c : Cap) (w38a : Option Pos) (w38l : Nat) (w38c : Cap) (w39 : Int) (w40 : Int) (S : AS) : r32_l1_1_1_0_1_0 call n  (m + 1) w0 w4a w4l w4c w38a w38l w38c w39 w40 S = b32_l1_1_1_0_1_0 call n (r32_j1_1_1_0_1_0_0_1_1_1 call n m) (r32_j1_1_1_1 call n ) w0 w4a w4l w4c w38a w38l w38c w39 w40 S := by kernel_rfl
theorem a32_j1_1_1_0_1_0_0_1_1_1 (call : CallA) (n : Nat) (m1_1_1_0_1_0 : Nat) (w0 : Option Pos) (w4a : Option Pos) (w4l : Nat) (w4c : Cap) (w38a : Option Pos) (w38l : Nat) (w38c : Cap) (w39 : Int) (w40 : Int) (S : AS) : r32_j1_1_1_0_1_0_0_1_1_1 call n m1_1_1_0_1_0 w0 w4a w4l w4c w38a w38l w38c w39 w40 S = b32_j1_1_1_0_1_0_0_1_1_1 call n (r32_l1_1_1_0_1_0 call n  m1_1_1_0_1_0) w0 w4a w4l w4c w38a w38l w38c w39 w40 S := by kernel_rfl
theorem a32_j1_1_1_1 (call : CallA) (n : Nat)  (w0 : Option Pos) (S : AS) : r32_j1_1_1_1 call n  w0 S = b32_j1_1_1_1 call n  w0 S := by kernel_rfl
theorem a32_entry (call : CallA) (n : Nat) (x0 : Option Pos) (x1a : Option Pos) (x1l : Nat) (x1c : Cap) (S : AS) : evC E call n 32 (E.at 32 []) 0 (enumT 0 [(.ptr x0), (.sl x1a x1l x1c)]) S (retK E (E.fn 32)) = b32_entry call n (r32_l1_1_0_1_0 call n  n) x0 x1a x1l x1c S := by kernel_rfl
def J32_j1_1_0_1_0_0_1_1_1 (call : CallA) (n : Nat) (n1_1_0_1_0 : Option Pos → Option Pos → Nat → Cap → Option Pos → Nat → Cap → Int → Int → AS → Option (AV × AS)) (w0 : Option Pos) (w4a : Option Pos) (w4l : Nat) (w4c : Cap) (w17a : Option Pos) (w17l : Nat) (w17c : Cap) (w18 : Int) (w19 : Int) (S : AS) : Option (AV × AS) := b32_j1_1_0_1_0_0_1_1_1 call n n1_1_0_1_0 w0 w4a w4l w4c w17a w17l w17c w18 w19 S
theorem h32_j1_1_0_1_0_0_1_1_1 (call : CallA) (n : Nat) (m1_1_0_1_0 : Nat) : r32_j1_1_0_1_0_0_1_1_1 call n m1_1_0_1_0 = J32_j1_1_0_1_0_0_1_1_1 call n (r32_l1_1_0_1_0 call n  m1_1_0_1_0) := by
  funext w0 w4a w4l w4c w17a w17l w17c w18 w19 S
  rw [J32_j1_1_0_1_0_0_1_1_1, a32_j1_1_0_1_0_0_1_1_1]
def J32_j1_1_1_0_1_0_0_1_1_1 (call : CallA) (n : Nat) (n1_1_1_0_1_0 : Option Pos → Option Pos → Nat → Cap → Option Pos → Nat → Cap → Int → Int → AS → Option (AV × AS)) (w0 : Option Pos) (w4a : Option Pos) (w4l : Nat) (w4c : Cap) (w38a : Option Pos) (w38l : Nat) (w38c : Cap) (w39 : Int) (w40 : Int) (S : AS) : Option (AV × AS) := b32_j1_1_1_0_1_0_0_1_1_1 call n n1_1_1_0_1_0 w0 w4a w4l w4c w38a w38l w38c w39 w40 S
theorem h32_j1_1_1_0_1_0_0_1_1_1 (call : CallA) (n : Nat) (m1_1_1_0_1_0 : Nat) : r32_j1_1_1_0_1_0_0_1_1_1 call n m1_1_1_0_1_0 = J32_j1_1_1_0_1_0_0_1_1_1 call n (r32_l1_1_1_0_1_0 call n  m1_1_1_0_1_0) := by
  funext w0 w4a w4l w4c w38a w38l w38c w39 w40 S
  rw [J32_j1_1_1_0_1_0_0_1_1_1, a32_j1_1_1_0_1_0_0_1_1_1]
def J32_j1_1_1_1 (call : CallA) (n : Nat)  (w0 : Option Pos) (S : AS) : Option (AV × AS) := b32_j1_1_1_1 call n  w0 S
theorem h32_j1_1_1_1 (call : CallA) (n : Nat)  : r32_j1_1_1_1 call n  = J32_j1_1_1_1 call n  := by
  funext w0 S
  rw [J32_j1_1_1_1, a32_j1_1_1_1]
def J32_l1_1_1_0_1_0 (call : CallA) (n : Nat)  (m : Nat) : Option Pos → Option Pos → Nat → Cap → Option Pos → Nat → Cap → Int → Int → AS → Option (AV × AS) := Nat.rec (motive := fun _ => Option Pos → Option Pos → Nat → Cap → Option Pos → Nat → Cap → Int → Int → AS → Option (AV × AS)) (fun _ _ _ _ _ _ _ _ _ _ => none) (fun _ ih w0 w4a w4l w4c w38a w38l w38c w39 w40 S => b32_l1_1_1_0_1_0 call n (J32_j1_1_1_0_1_0_0_1_1_1 call n ih) (J32_j1_1_1_1 call n ) w0 w4a w4l w4c w38a w38l w38c w39 w40 S) m
theorem J32_l1_1_1_0_1_0_succ (call : CallA) (n : Nat)  (m : Nat) (w0 : Option Pos) (w4a : Option Pos) (w4l : Nat) (w4c : Cap) (w38a : Option Pos) (w38l : Nat) (w38c : Cap) (w39 : Int) (w40 : Int) (S : AS) : J32_l1_1_1_0_1_0 call n  (m + 1) w0 w4a w4l w4c w38a w38l w38c w39 w40 S = b32_l1_1_1_0_1_0 call n (J32_j1_1_1_0_1_0_0_1_1_1 call n (J32_l1_1_1_0_1_0 call n  m)) (J32_j1_1_1_1 call n ) w0 w4a w4l w4c w38a w38l w38c w39 w40 S := rfl
theorem h32_l1_1_1_0_1_0 (call : CallA) (n : Nat)  (m : Nat) : r32_l1_1_1_0_1_0 call n  m = J32_l1_1_1_0_1_0 call n  m := by
  induction m with
  | zero => rfl
  | succ m ih =>
    funext w0 w4a w4l w4c w38a w38l w38c w39 w40 S
    rw [J32_l1_1_1_0_1_0_succ, a32_l1_1_1_0_1_0, h32_j1_1_1_0_1_0_0_1_1_1 call n m, h32_j1_1_1_1 call n , ih]
def J32_j1_1_1 (call : CallA) (n : Nat)  (w0 : Option Pos) (w4a : Option Pos) (w4l : Nat) (w4c : Cap) (S : AS) : Option (AV × AS) := b32_j1_1_1 call n (J32_l1_1_1_0_1_0 call n  n) w0 w4a w4l w4c S
theorem h32_j1_1_1 (call : CallA) (n : Nat)  : r32_j1_1_1 call n  = J32_j1_1_1 call n  := by
  funext w0 w4a w4l w4c S
  rw [J32_j1_1_1, a32_j1_1_1, h32_l1_1_1_0_1_0 call n  n]
def J32_l1_1_0_1_0 (call : CallA) (n : Nat)  (m : Nat) : Option Pos → Option Pos → Nat → Cap → Option Pos → Nat → Cap → Int → Int → AS → Option (AV × AS) := Nat.rec (motive := fun _ => Option Pos → Option Pos → Nat → Cap → Option Pos → Nat → Cap → Int → Int → AS → Option (AV × AS)) (fun _ _ _ _ _ _ _ _ _ _ => none) (fun _ ih w0 w4a w4l w4c w17a w17l w17c w18 w19 S => b32_l1_1_0_1_0 call n (J32_j1_1_0_1_0_0_1_1_1 call n ih) (J32_j1_1_1 call n ) w0 w4a w4l w4c w17a w17l w17c w18 w19 S) m
theorem J32_l1_1_0_1_0_succ (call : CallA) (n : Nat)  (m : Nat) (w0 : Option Pos) (w4a : Option Pos) (w4l : Nat) (w4c : Cap) (w17a : Option Pos) (w17l : Nat) (w17c : Cap) (w18 : Int) (w19 : Int) (S : AS) : J32_l1_1_0_1_0 call n  (m + 1) w0 w4a w4l w4c w17a w17l w17c w18 w19 S = b32_l1_1_0_1_0 call n (J32_j1_1_0_1_0_0_1_1_1 call n (J32_l1_1_0_1_0 call n  m)) (J32_j1_1_1 call n ) w0 w4a w4l w4c w17a w17l w17c w18 w19 S := rfl
theorem h32_l1_1_0_1_0 (call : CallA) (n : Nat)  (m : Nat) : r32_l1_1_0_1_0 call n  m = J32_l1_1_0_1_0 call n  m := by
  induction m with
  | zero => rfl
  | succ m ih =>
    funext w0 w4a w4l w4c w17a w17l w17c w18 w19 S
    rw [J32_l1_1_0_1_0_succ, a32_l1_1_0_1_0, h32_j1_1_0_1_0_0_1_1_1 call n m, h32_j1_1_1 call n , ih]
def J32 (call : CallA) (n : Nat) (x0 : Option Pos) (x1a : Option Pos) (x1l : Nat) (x1c : Cap) (S : AS) : Option (AV × AS) := b32_entry call n (J32_l1_1_0_1_0 call n  n) x0 x1a x1l x1c S
theorem run32 (o : Orc) (n : Nat) (args : List AV) (S : AS) (ho : o 32 args = none) : evF E o (n + 1) (.fn 32) args S = evC E (evF E o n) n 32 (E.at 32 []) 0 (enumT 0 args) S (retK E (E.fn 32)) := by
  rw [evF, ho]; kernel_rfl
theorem J32_eq (call : CallA) (n : Nat) (x0 : Option Pos) (x1a : Option Pos) (x1l : Nat) (x1c : Cap) (S : AS) : evC E call n 32 (E.at 32 []) 0 (enumT 0 [(.ptr x0), (.sl x1a x1l x1c)]) S (retK E (E.fn 32)) = J32 call n x0 x1a x1l x1c S := by
  rw [J32, a32_entry, h32_l1_1_0_1_0 call n  n]
theorem F32 {o : Orc} (n : Nat) (x0 : Option Pos) (x1a : Option Pos) (x1l : Nat) (x1c : Cap) (S : AS) (ho : ∀ args, o 32 args = none) : evF E o (n + 1) (.fn 32) [(.ptr x0), (.sl x1a x1l x1c)] S = J32 (evF E o n) n x0 x1a x1l x1c S := (run32 o n [(.ptr x0), (.sl x1a x1l x1c)] S (ho _)).trans (J32_eq _ _ x0 x1a x1l x1c S)
def b33_l1_1_1_1_0_1_0 (call : CallA) (n : Nat) (l1_1_1_1_0_1_0 : Int → Option Pos → List UInt8 → Int → AS → Option (AV × AS)) (j1_1_1_1_1 : Option Pos → AS → Option (AV × AS)) (w0 : Int) (w6 : Option Pos) (w7 : List UInt8) (w8 : Int) (S : AS) : Option (AV × AS) :=
 cond (decide (w8 < w0)) (
 gO w6 fun p12 =>
 ldL S p12.1 p12.2 fun v13a v13l v13c =>
 ixSl 1 v13a v13l w8 fun p14 =>
 S.stn p14.1 p14.2 [(.str w7)] fun S15 =>
 l1_1_1_1_0_1_0 w0 w6 w7 (IntKind.wrap .i64 (w8 + 1)) S15) (
 j1_1_1_1_1 w6 S)

def b33_j1_1_1_1_1 (call : CallA) (n : Nat)  (w6 : Option Pos) (S : AS) : Option (AV × AS) :=
 some (.tup [(.ptr w6), (.int .i64 0)], S)

def b33_entry (call : CallA) (n : Nat) (l1_1_1_1_0_1_0 : Int → Option Pos → List UInt8 → Int → AS → Option (AV × AS)) (x0 : Int) (x1 : Int) (S : AS) : Option (AV × AS) :=
 cond (decide (x0 < 1)) (
 some (.tup [(.ptr none), (.int .i64 2)], S)) (
 cond (decide (x0 > 65536)) (
 some (.tup [(.ptr none), (.int .i64 2)], S)) (
 cond (decide (x1 < 8)) (
 some (.tup [(.ptr none), (.int .i64 2)], S)) (
 cond (decide (x1 > 512)) (
 some (.tup [(.ptr none), (.int .i64 2)], S)) (
 drawA S 8 fun b1 S2 =>
 mkSl 16 x0 x0 fun l3 c4 =>
 mkSl 8 x0 x0 fun l5 c6 =>
 layA S2 (b1 + 6) (.cells [(.sl (some (.rw (b1 + 1), 0)) l3 (.ex c4)), (.sl (some (.rw (b1 + 3), 0)) l5 (.ex c6)), (.sl none 0 (.ex 0)), (.bool false), (.int .i64 0), (.int .i64 x1)]) fun S7 =>
 layA S7 (b1 + 3) (.cells (zeros c6 [(.int .i64 0)])) fun S8 =>
 layA S8 (b1 + 1) (.cells (zeros c4 [(.str ([]))])) fun S9 =>
 callS call 50 [(.int .i64 x1)] S9 fun v11 S10 =>
 l1_1_1_1_0_1_0 x0 (some ((.rw (b1 + 6)), 0)) v11 0 S10))))

def r33_l1_1_1_1_0_1_0 (call : CallA) (n : Nat)  (m : Nat) (w0 : Int) (w6 : Option Pos) (w7 : List UInt8) (w8 : Int) (S : AS) : Option (AV × AS) := loopN (evC E call n 33 (E.at 33 [1, 1, 1, 1, 0, 1, 0, 0]) 0) [0, 6, 7, 8] m [(0, (.int .i64 w0)), (6, (.ptr w6)), (7, (.str w7)), (8, (.int .i64 w8))] S (kBlk 0 (kSeq E call n 33 (E.at 33 [1, 1, 1, 1, 1]) 0 (retK E (E.fn 33))))
def r33_j1_1_1_1_1 (call : CallA) (n : Nat)  (w6 : Option Pos) (S : AS) : Option (AV × AS) := evC E call n 33 (E.at 33 [1, 1, 1, 1, 1]) 0 [(6, (.ptr w6))] S (retK E (E.fn 33))
theorem a33_l1_1_1_1_0_1_0 (call : CallA) (n : Nat)  (m : Nat) (w0 : Int) (w6 : Option Pos) (w7 : List UInt8) (w8 : Int) (S : AS) : r33_l1_1_1_1_0_1_0 call n  (m + 1) w0 w6 w7 w8 S = b33_l1_1_1_1_0_1_0 call n (r33_l1_1_1_1_0_1_0 call n  m) (r33_j1_1_1_1_1 call n ) w0 w6 w7 w8 S := by kernel_rfl
theorem a33_j1_1_1_1_1 (call : CallA) (n : Nat)  (w6 : Option Pos) (S : AS) : r33_j1_1_1_1_1 call n  w6 S = b33_j1_1_1_1_1 call n  w6 S := by kernel_rfl
theorem a33_entry (call : CallA) (n : Nat) (x0 : Int) (x1 : Int) (S : AS) : evC E call n 33 (E.at 33 []) 0 (enumT 0 [(.int .i64 x0), (.int .i64 x1)]) S (retK E (E.fn 33)) = b33_entry call n (r33_l1_1_1_1_0_1_0 call n  n) x0 x1 S := by kernel_rfl
def J33_j1_1_1_1_1 (call : CallA) (n : Nat)  (w6 : Option Pos) (S : AS) : Option (AV × AS) := b33_j1_1_1_1_1 call n  w6 S
theorem h33_j1_1_1_1_1 (call : CallA) (n : Nat)  : r33_j1_1_1_1_1 call n  = J33_j1_1_1_1_1 call n  := by
  funext w6 S
  rw [J33_j1_1_1_1_1, a33_j1_1_1_1_1]
def J33_l1_1_1_1_0_1_0 (call : CallA) (n : Nat)  (m : Nat) : Int → Option Pos → List UInt8 → Int → AS → Option (AV × AS) := Nat.rec (motive := fun _ => Int → Option Pos → List UInt8 → Int → AS → Option (AV × AS)) (fun _ _ _ _ _ => none) (fun _ ih w0 w6 w7 w8 S => b33_l1_1_1_1_0_1_0 call n ih (J33_j1_1_1_1_1 call n ) w0 w6 w7 w8 S) m
theorem J33_l1_1_1_1_0_1_0_succ (call : CallA) (n : Nat)  (m : Nat) (w0 : Int) (w6 : Option Pos) (w7 : List UInt8) (w8 : Int) (S : AS) : J33_l1_1_1_1_0_1_0 call n  (m + 1) w0 w6 w7 w8 S = b33_l1_1_1_1_0_1_0 call n (J33_l1_1_1_1_0_1_0 call n  m) (J33_j1_1_1_1_1 call n ) w0 w6 w7 w8 S := rfl
theorem h33_l1_1_1_1_0_1_0 (call : CallA) (n : Nat)  (m : Nat) : r33_l1_1_1_1_0_1_0 call n  m = J33_l1_1_1_1_0_1_0 call n  m := by
  induction m with
  | zero => rfl
  | succ m ih =>
    funext w0 w6 w7 w8 S
    rw [J33_l1_1_1_1_0_1_0_succ, a33_l1_1_1_1_0_1_0, h33_j1_1_1_1_1 call n , ih]
def J33 (call : CallA) (n : Nat) (x0 : Int) (x1 : Int) (S : AS) : Option (AV × AS) := b33_entry call n (J33_l1_1_1_1_0_1_0 call n  n) x0 x1 S
theorem run33 (o : Orc) (n : Nat) (args : List AV) (S : AS) (ho : o 33 args = none) : evF E o (n + 1) (.fn 33) args S = evC E (evF E o n) n 33 (E.at 33 []) 0 (enumT 0 args) S (retK E (E.fn 33)) := by
  rw [evF, ho]; kernel_rfl
theorem J33_eq (call : CallA) (n : Nat) (x0 : Int) (x1 : Int) (S : AS) : evC E call n 33 (E.at 33 []) 0 (enumT 0 [(.int .i64 x0), (.int .i64 x1)]) S (retK E (E.fn 33)) = J33 call n x0 x1 S := by
  rw [J33, a33_entry, h33_l1_1_1_1_0_1_0 call n  n]
theorem F33 {o : Orc} (n : Nat) (x0 : Int) (x1 : Int) (S : AS) (ho : ∀ args, o 33 args = none) : evF E o (n + 1) (.fn 33) [(.int .i64 x0), (.int .i64 x1)] S = J33 (evF E o n) n x0 x1 S := (run33 o n [(.int .i64 x0), (.int .i64 x1)] S (ho _)).trans (J33_eq _ _ x0 x1 S)
def b34_l1_0_1_0_1_0_1_1_0_1_0 (call : CallA) (n : Nat) (l1_0_1_0_1_0_1_1_0_1_0 : Option Pos → Option Pos → Nat → Cap → Bool → Int → AS → Option (AV × AS)) (j1_0_1_0_1_0_1_1_1 : Option Pos → Bool → AS → Option (AV × AS)) (w0 : Option Pos) (w8a : Option Pos) (w8l : Nat) (w8c : Cap) (w9 : Bool) (w10 : Int) (S : AS) : Option (AV × AS) :=
 cond (decide (w10 < ((w8l : Nat) : Int))) (
 ixSl 1 w8a w8l w10 fun p93 =>
 S.stn p93.1 p93.2 [(.int .u8 63)] fun S94 =>
 l1_0_1_0_1_0_1_1_0_1_0 w0 w8a w8l w8c w9 (IntKind.wrap .i64 (w10 + 1)) S94) (
 j1_0_1_0_1_0_1_1_1 w0 w9 S)

def b34_j1_1 (call : CallA) (n : Nat)  (w0 : Option Pos) (S : AS) : Option (AV × AS) :=
 some (.tup [(.ptr w0), (.bool true)], S)

def b34_j1_0_1_0_1_0_1_1_1 (call : CallA) (n : Nat)  (w0 : Option Pos) (w9 : Bool) (S : AS) : Option (AV × AS) :=
 some (.tup [(.ptr w0), (.bool w9)], S)

def b34_entry (call : CallA) (n : Nat) (l1_0_1_0_1_0_1_1_0_1_0 : Option Pos → Option Pos → Nat → Cap → Bool → Int → AS → Option (AV × AS)) (j1_1 : Option Pos → AS → Option (AV × AS)) (x0 : Option Pos) (x1 : Option Pos) (x2 : List AV) (S : AS) : Option (AV × AS) :=
 ifO (x2.length = 6) <|
 newA S (.cells x2) fun b1 S2 =>
 ldI .i64 S2 (.rw b1) 0 fun v3 =>
 cond (v3 == 1) (
 newA S2 (.cells []) fun b4 S5 =>
 ldL S5 (.rw b1) 4 fun v6a v6l v6c =>
 appendA 1 1 S5 (some (.rw b4, 0)) 0 (.ex 0) v6l (firstA S5 1 v6l (.sl v6a v6l v6c)) fun v7a v7l v7c S8 =>
 ldI .i64 S8 (.rw b1) 1 fun v9 =>
 callI .i64 call 13 [(.ptr x0), (.int .i64 v9), (.sl v7a v7l v7c)] S8 fun v11 S10 =>
 callI .i64 call 12 [(.int .i64 v11)] S10 fun v13 S12 =>
 ldI .i64 S12 (.rw b1) 1 fun v14 =>
 ldI .i64 S10 (.rw b1) 1 fun v15 =>
 cond (AV.beq (.int .i64 v15) (.int .i64 v14)) (
 ldI .i64 S8 (.rw b1) 1 fun v16 =>
 cond (AV.beq (.int .i64 v16) (.int .i64 v14)) (
 ldL S12 (.rw b1) 4 fun v17a v17l v17c =>
 ldL S10 (.rw b1) 4 fun v18a v18l v18c =>
 cond (AV.beq (.sl v18a v18l v18c) (.sl v17a v17l v17c)) (
 ldL S8 (.rw b1) 4 fun v19a v19l v19c =>
 cond (AV.beq (.sl v19a v19l v19c) (.sl v17a v17l v17c)) (
 bytesStr S12 v17a v17l fun s20 =>
 bytesStr S10 v17a v17l fun s21 =>
 cond (AV.beq (.str s21) (.str s20)) (
 bytesStr S8 v17a v17l fun s22 =>
 cond (AV.beq (.str s22) (.str s20)) (
 callI .i64 call 51 [(.ptr x1), (.int .i64 v14), (.str s20)] S12 fun v24 S23 =>
 l1_0_1_0_1_0_1_1_0_1_0 x0 v7a v7l v7c (v13 == v24) 0 S23) none) none) none) none) none) none) (
 cond (v3 == 2) (
 callI .i64 call 17 [(.ptr x0)] S2 fun v26 S25 =>
 callI .i64 call 12 [(.int .i64 v26)] S25 fun v28 S27 =>
 callI .i64 call 52 [(.ptr x1)] S27 fun v30 S29 =>
 some (.tup [(.ptr x0), (.bool (v28 == v30))], S29)) (
 cond (v3 == 3) (
 newA S2 (.cells []) fun b31 S32 =>
 ldL S32 (.rw b1) 5 fun v33a v33l v33c =>
 appendA 1 8 S32 (some (.rw b31, 0)) 0 (.ex 0) v33l (firstA S32 1 v33l (.sl v33a v33l v33c)) fun v34a v34l v34c S35 =>
 callT call 32 [(.ptr x0), (.sl v34a v34l v34c)] S35 fun v37 S36 =>
 ldL S36 (.rw b1) 5 fun v38a v38l v38c =>
 callT call 53 [(.ptr x1), (.sl v38a v38l v38c)] S36 fun v40 S39 =>
 j1_1 x0 S39) (
 cond (v3 == 4) (
 callT call 36 [(.ptr x0)] S2 fun v42 S41 =>
 callT call 54 [(.ptr x1)] S41 fun v44 S43 =>
 j1_1 x0 S43) (
 cond (v3 == 5) (
 callT call 37 [(.ptr x0)] S2 fun v46 S45 =>
 callT call 55 [(.ptr x1)] S45 fun v48 S47 =>
 j1_1 x0 S47) (
 cond (v3 == 6) (
 ldI .i64 S2 (.rw b1) 1 fun v49 =>
 callI .i64 call 29 [(.ptr x0), (.int .i64 v49)] S2 fun v51 S50 =>
 callI .i64 call 12 [(.int .i64 v51)] S50 fun v53 S52 =>
 ldI .i64 S52 (.rw b1) 1 fun v54 =>
 ldI .i64 S50 (.rw b1) 1 fun v55 =>
 cond (AV.beq (.int .i64 v55) (.int .i64 v54)) (
 ldI .i64 S2 (.rw b1) 1 fun v56 =>
 cond (AV.beq (.int .i64 v56) (.int .i64 v54)) (
 callI .i64 call 56 [(.ptr x1), (.int .i64 v54)] S52 fun v58 S57 =>
 some (.tup [(.ptr x0), (.bool (v53 == v58))], S57)) none) none) (
 cond (v3 == 7) (
 ldI .i64 S2 (.rw b1) 1 fun v59 =>
 ldI .i64 S2 (.rw b1) 2 fun v60 =>
 ldI .u32 S2 (.rw b1) 3 fun v61 =>
 callI .i64 call 27 [(.ptr x0), (.int .i64 v59), (.int .i64 v60), (.int .u32 v61)] S2 fun v63 S62 =>
 callI .i64 call 12 [(.int .i64 v63)] S62 fun v65 S64 =>
 ldI .i64 S64 (.rw b1) 1 fun v66 =>
 ldI .i64 S62 (.rw b1) 1 fun v67 =>
 cond (AV.beq (.int .i64 v67) (.int .i64 v66)) (
 ldI .i64 S2 (.rw b1) 1 fun v68 =>
 cond (AV.beq (.int .i64 v68) (.int .i64 v66)) (
 ldI .i64 S64 (.rw b1) 2 fun v69 =>
 ldI .i64 S62 (.rw b1) 2 fun v70 =>
 cond (AV.beq (.int .i64 v70) (.int .i64 v69)) (
 ldI .i64 S2 (.rw b1) 2 fun v71 =>
 cond (AV.beq (.int .i64 v71) (.int .i64 v69)) (
 ldI .u32 S64 (.rw b1) 3 fun v72 =>
 ldI .u32 S62 (.rw b1) 3 fun v73 =>
 cond (AV.beq (.int .u32 v73) (.int .u32 v72)) (
 ldI .u32 S2 (.rw b1) 3 fun v74 =>
 cond (AV.beq (.int .u32 v74) (.int .u32 v72)) (
 callI .i64 call 28 [(.ptr x1), (.int .i64 v66), (.int .i64 v69), (.int .u32 v72)] S64 fun v76 S75 =>
 some (.tup [(.ptr x0), (.bool (v65 == v76))], S75)) none) none) none) none) none) none) (
 cond (v3 == 8) (
 callP call 26 [(.ptr x0)] S2 fun v78 S77 =>
 cond v78.isNone (
 some (.tup [(.ptr x0), (.bool false)], S77)) (
 callB call 21 [(.ptr v78), (.ptr x0)] S77 fun v80 S79 =>
 cond (!v80) (
 some (.tup [(.ptr x0), (.bool false)], S79)) (
 callI .i64 call 38 [(.ptr x0)] S79 fun v82 S81 =>
 callL call 14 [(.int .i64 v82), (.int .u8 63)] S81 fun v84a v84l v84c S83 =>
 callI .i64 call 13 [(.ptr x0), (.int .i64 0), (.sl v84a v84l v84c)] S83 fun v86 S85 =>
 callI .i64 call 17 [(.ptr x0)] S85 fun v88 S87 =>
 callI .i64 call 29 [(.ptr x0), (.int .i64 0)] S87 fun v90 S89 =>
 callT call 36 [(.ptr x0)] S89 fun v92 S91 =>
 some (.tup [(.ptr v78), (.bool true)], S91)))) (
 j1_1 x0 S2))))))))

def r34_l1_0_1_0_1_0_1_1_0_1_0 (call : CallA) (n : Nat)  (m : Nat) (w0 : Option Pos) (w8a : Option Pos) (w8l : Nat) (w8c : Cap) (w9 : Bool) (w10 : Int) (S : AS) : Option (AV × AS) := loopN (evC E call n 34 (E.at 34 [1, 0, 1, 0, 1, 0, 1, 1, 0, 1, 0, 0]) 1) [0, 8, 9, 10] m [(0, (.ptr w0)), (8, (.sl w8a w8l w8c)), (9, (.bool w9)), (10, (.int .i64 w10))] S (kBlk 1 (kSeq E call n 34 (E.at 34 [1, 0, 1, 0, 1, 0, 1, 1, 1]) 0 (kBlk 0 (kSeq E call n 34 (E.at 34 [1, 1]) 0 (retK E (E.fn 34))))))
def r34_j1_1 (call : CallA) (n : Nat)  (w0 : Option Pos) (S : AS) : Option (AV × AS) := evC E call n 34 (E.at 34 [1, 1]) 0 [(0, (.ptr w0))] S (retK E (E.fn 34))
def r34_j1_0_1_0_1_0_1_1_1 (call : CallA) (n : Nat)  (w0 : Option Pos) (w9 : Bool) (S : AS) : Option (AV × AS) := evC E call n 34 (E.at 34 [1, 0, 1, 0, 1, 0, 1, 1, 1]) 0 [(0, (.ptr w0)), (9, (.bool w9))] S (kBlk 0 (kSeq E call n 34 (E.at 34 [1, 1]) 0 (retK E (E.fn 34))))
theorem a34_l1_0_1_0_1_0_1_1_0_1_0 (call : CallA) (n : Nat)  (m : Nat) (w0 : Option Pos) (w8a : Option Pos) (w8l : Nat) (w8c : Cap) (w9 : Bool) (w10 : Int) (S : AS) : r34_l1_0_1_0_1_0_1_1_0_1_0 call n  (m + 1) w0 w8a w8l w8c w9 w10 S = b34_l1_0_1_0_1_0_1_1_0_1_0 call n (r34_l1_0_1_0_1_0_1_1_0_1_0 call n  m) (r34_j1_0_1_0_1_0_1_1_1 call n ) w0 w8a w8l w8c w9 w10 S := by kernel_rfl
theorem a34_j1_1 (call : CallA) (n : Nat)  (w0 : Option Pos) (S : AS) : r34_j1_1 call n  w0 S = b34_j1_1 call n  w0 S := by kernel_rfl
theorem a34_j1_0_1_0_1_0_1_1_1 (call : CallA) (n : Nat)  (w0 : Option Pos) (w9 : Bool) (S : AS) : r34_j1_0_1_0_1_0_1_1_1 call n  w0 w9 S = b34_j1_0_1_0_1_0_1_1_1 call n  w0 w9 S := by kernel_rfl
theorem a34_entry (call : CallA) (n : Nat) (x0 : Option Pos) (x1 : Option Pos) (x2 : List AV) (S : AS) : evC E call n 34 (E.at 34 []) 0 (enumT 0 [(.ptr x0), (.ptr x1), (.agg x2)]) S (retK E (E.fn 34)) = b34_entry call n (r34_l1_0_1_0_1_0_1_1_0_1_0 call n  n) (r34_j1_1 call n ) x0 x1 x2 S := by kernel_rfl
def J34_j1_0_1_0_1_0_1_1_1 (call : CallA) (n : Nat)  (w0 : Option Pos) (w9 : Bool) (S : AS) : Option (AV × AS) := b34_j1_0_1_0_1_0_1_1_1 call n  w0 w9 S
theorem h34_j1_0_1_0_1_0_1_1_1 (call : CallA) (n : Nat)  : r34_j1_0_1_0_1_0_1_1_1 call n  = J34_j1_0_1_0_1_0_1_1_1 call n  := by
  funext w0 w9 S
  rw [J34_j1_0_1_0_1_0_1_1_1, a34_j1_0_1_0_1_0_1_1_1]
def J34_l1_0_1_0_1_0_1_1_0_1_0 (call : CallA) (n : Nat)  (m : Nat) : Option Pos → Option Pos → Nat → Cap → Bool → Int → AS → Option (AV × AS) := Nat.rec (motive := fun _ => Option Pos → Option Pos → Nat → Cap → Bool → Int → AS → Option (AV × AS)) (fun _ _ _ _ _ _ _ => none) (fun _ ih w0 w8a w8l w8c w9 w10 S => b34_l1_0_1_0_1_0_1_1_0_1_0 call n ih (J34_j1_0_1_0_1_0_1_1_1 call n ) w0 w8a w8l w8c w9 w10 S) m
theorem J34_l1_0_1_0_1_0_1_1_0_1_0_succ (call : CallA) (n : Nat)  (m : Nat) (w0 : Option Pos) (w8a : Option Pos) (w8l : Nat) (w8c : Cap) (w9 : Bool) (w10 : Int) (S : AS) : J34_l1_0_1_0_1_0_1_1_0_1_0 call n  (m + 1) w0 w8a w8l w8c w9 w10 S = b34_l1_0_1_0_1_0_1_1_0_1_0 call n (J34_l1_0_1_0_1_0_1_1_0_1_0 call n  m) (J34_j1_0_1_0_1_0_1_1_1 call n ) w0 w8a w8l w8c w9 w10 S := rfl
theorem h34_l1_0_1_0_1_0_1_1_0_1_0 (call : CallA) (n : Nat)  (m : Nat) : r34_l1_0_1_0_1_0_1_1_0_1_0 call n  m = J34_l1_0_1_0_1_0_1_1_0_1_0 call n  m := by
  induction m with
  | zero => rfl
  | succ m ih =>
    funext w0 w8a w8l w8c w9 w10 S
    rw [J34_l1_0_1_0_1_0_1_1_0_1_0_succ, a34_l1_0_1_0_1_0_1_1_0_1_0, h34_j1_0_1_0_1_0_1_1_1 call n , ih]
def J34_j1_1 (call : CallA) (n : Nat)  (w0 : Option Pos) (S : AS) : Option (AV × AS) := b34_j1_1 call n  w0 S
theorem h34_j1_1 (call : CallA) (n : Nat)  : r34_j1_1 call n  = J34_j1_1 call n  := by
  funext w0 S
  rw [J34_j1_1, a34_j1_1]
def J34 (call : CallA) (n : Nat) (x0 : Option Pos) (x1 : Option Pos) (x2 : List AV) (S : AS) : Option (AV × AS) := b34_entry call n (J34_l1_0_1_0_1_0_1_1_0_1_0 call n  n) (J34_j1_1 call n ) x0 x1 x2 S
theorem run34 (o : Orc) (n : Nat) (args : List AV) (S : AS) (ho : o 34 args = none) : evF E o (n + 1) (.fn 34) args S = evC E (evF E o n) n 34 (E.at 34 []) 0 (enumT 0 args) S (retK E (E.fn 34)) := by
  rw [evF, ho]; kernel_rfl
theorem J34_eq (call : CallA) (n : Nat) (x0 : Option Pos) (x1 : Option Pos) (x2 : List AV) (S : AS) : evC E call n 34 (E.at 34 []) 0 (enumT 0 [(.ptr x0), (.ptr x1), (.agg x2)]) S (retK E (E.fn 34)) = J34 call n x0 x1 x2 S := by
  rw [J34, a34_entry, h34_l1_0_1_0_1_0_1_1_0_1_0 call n  n, h34_j1_1 call n ]
theorem F34 {o : Orc} (n : Nat) (x0 : Option Pos) (x1 : Option Pos) (x2 : List AV) (S : AS) (ho : ∀ args, o 34 args = none) : evF E o (n + 1) (.fn 34) [(.ptr x0), (.ptr x1), (.agg x2)] S = J34 (evF E o n) n x0 x1 x2 S := (run34 o n [(.ptr x0), (.ptr x1), (.agg x2)] S (ho _)).trans (J34_eq _ _ x0 x1 x2 S)
end
end Go.Dk
