/- Plain readings of the functions, and that they are what the evaluator does: by program. -/
import Derived.Test.YtffeeebegglejaaGrRes
import Derived.Test.YtffeeebegglejaaENV
import Derived.KernelRfl
set_option maxRecDepth 100000
set_option linter.unusedVariables false
namespace Go.Na
open Go.Gr
noncomputable section
def b18_entry (call : CallA) (n : Nat)   (S : AS) : Option (AV × AS) :=
callP call 47 [(.int .i64 3), (.int .i64 0), (.int .i64 0)] S fun v2 S1 =>
callT call 19 [(.iface 88 (.ptr v2)), (.int .i64 2)] S1 fun v4 S3 =>
atP v4 0 fun v5 =>
atI .i64 v4 1 fun v6 =>
callI .i64 call 25 [(.int .i64 v6)] S3 fun v8 S7 =>
cond (v8 != 0) (
some ((.bool false), S7)) (
cond v5.isNone (
some ((.bool false), S7)) (
newA S7 (.cells [(.int .u8 97)]) fun b9 S10 =>
convLL S10 (some (.rw b9, 0)) 1 (.ex 1) fun v12a v12l v12c S11 =>
callI .i64 call 26 [(.ptr v5), (.int .i64 0), (.sl v12a v12l v12c), (.int .u64 5)] S11 fun v14 S13 =>
newA S13 (.cells [(.int .u8 98)]) fun b15 S16 =>
convLL S16 (some (.rw b15, 0)) 1 (.ex 1) fun v18a v18l v18c S17 =>
callI .i64 call 26 [(.ptr v5), (.int .i64 1), (.sl v18a v18l v18c), (.int .u64 6)] S17 fun v20 S19 =>
callT call 20 [(.ptr v5), (.int .i64 2)] S19 fun v22 S21 =>
atL v22 0 fun v23a v23l v23c =>
atI .i64 v22 1 fun v24 =>
callT call 24 [(.ptr v5), (.int .u64 5)] S21 fun v26 S25 =>
callT call 20 [(.ptr v5), (.int .i64 2)] S25 fun v28 S27 =>
atL v28 0 fun v29a v29l v29c =>
atI .i64 v28 1 fun v30 =>
callI .i64 call 25 [(.int .i64 v14)] S27 fun v32 S31 =>
cond (v32 == 0) (
callI .i64 call 25 [(.int .i64 v20)] S31 fun v34 S33 =>
cond (v34 == 0) (
callI .i64 call 25 [(.int .i64 v24)] S33 fun v36 S35 =>
cond (v36 == 91) (
callI .i64 call 25 [(.int .i64 v30)] S35 fun v38 S37 =>
cond (v38 == 0) (
cond (((v29l : Nat) : Int) == 384) (
gO v2 fun p39 =>
ldL S37 p39.1 p39.2 fun v40a v40l v40c =>
ixSl 1 v40a v40l 0 fun p41 =>
ldL S37 p41.1 p41.2 fun v42a v42l v42c =>
ixSl 1 v42a v42l 0 fun p43 =>
ldI .u8 S37 p43.1 p43.2 fun v44 =>
cond (v44 == 97) (
gO v2 fun p45 =>
ldL S37 p45.1 p45.2 fun v46a v46l v46c =>
ixSl 1 v46a v46l 1 fun p47 =>
ldL S37 p47.1 p47.2 fun v48a v48l v48c =>
ixSl 1 v48a v48l 0 fun p49 =>
ldI .u8 S37 p49.1 p49.2 fun v50 =>
cond (v50 == 0) (
callL call 32 [(.ptr v5)] S37 fun v52a v52l v52c S51 =>
newA S51 (.cells [(.int .i64 1), (.int .i64 2)]) fun b53 S54 =>
callB call 48 [(.sl v52a v52l v52c), (.sl (some (.rw b53, 0)) 2 (.ex 2))] S54 fun v56 S55 =>
some ((.bool v56), S55)) (
some ((.bool false), S37))) (
some ((.bool false), S37))) (
some ((.bool false), S37))) (
some ((.bool false), S37))) (
some ((.bool false), S35))) (
some ((.bool false), S33))) (
some ((.bool false), S31))))

theorem a18_entry (call : CallA) (n : Nat)  (S : AS) : evC E call n 18 (E.at 18 []) 0 (enumT 0 []) S (retK E (E.fn 18)) = b18_entry call n   S := by kernel_rfl
def J18 (call : CallA) (n : Nat)  (S : AS) : Option (AV × AS) := b18_entry call n   S
theorem run18 (o : Orc) (n : Nat) (args : List AV) (S : AS) (ho : o 18 args = none) : evF E o (n + 1) (.fn 18) args S = evC E (evF E o n) n 18 (E.at 18 []) 0 (enumT 0 args) S (retK E (E.fn 18)) := by
  rw [evF, ho]; kernel_rfl
theorem J18_eq (call : CallA) (n : Nat)  (S : AS) : evC E call n 18 (E.at 18 []) 0 (enumT 0 []) S (retK E (E.fn 18)) = J18 call n  S := by
  rw [J18, a18_entry]
theorem F18 {o : Orc} (n : Nat)  (S : AS) (ho : ∀ args, o 18 args = none) : evF E o (n + 1) (.fn 18) [] S = J18 (evF E o n) n  S := (run18 o n [] S (ho _)).trans (J18_eq _ _  S)
def b20_entry (call : CallA) (n : Nat)  (x0 : Option Pos) (x1 : Int) (S : AS) : Option (AV × AS) :=
callT call 49 [(.ptr x0), (.int .i64 x1)] S fun v2 S1 =>
atP v2 0 fun v3 =>
atI .i64 v2 1 fun v4 =>
cond (v4 != 0) (
some (.tup [(.sl none 0 (.ex 0)), (.int .i64 v4)], S1)) (
gO v3 fun p5 =>
ldL S1 p5.1 (p5.2 + 3) fun v6a v6l v6c =>
callL call 50 [(.sl v6a v6l v6c)] S1 fun v8a v8l v8c S7 =>
some (.tup [(.sl v8a v8l v8c), (.int .i64 0)], S7))

theorem a20_entry (call : CallA) (n : Nat) (x0 : Option Pos) (x1 : Int) (S : AS) : evC E call n 20 (E.at 20 []) 0 (enumT 0 [(.ptr x0), (.int .i64 x1)]) S (retK E (E.fn 20)) = b20_entry call n  x0 x1 S := by kernel_rfl
def J20 (call : CallA) (n : Nat) (x0 : Option Pos) (x1 : Int) (S : AS) : Option (AV × AS) := b20_entry call n  x0 x1 S
theorem run20 (o : Orc) (n : Nat) (args : List AV) (S : AS) (ho : o 20 args = none) : evF E o (n + 1) (.fn 20) args S = evC E (evF E o n) n 20 (E.at 20 []) 0 (enumT 0 args) S (retK E (E.fn 20)) := by
  rw [evF, ho]; kernel_rfl
theorem J20_eq (call : CallA) (n : Nat) (x0 : Option Pos) (x1 : Int) (S : AS) : evC E call n 20 (E.at 20 []) 0 (enumT 0 [(.ptr x0), (.int .i64 x1)]) S (retK E (E.fn 20)) = J20 call n x0 x1 S := by
  rw [J20, a20_entry]
theorem F20 {o : Orc} (n : Nat) (x0 : Option Pos) (x1 : Int) (S : AS) (ho : ∀ args, o 20 args = none) : evF E o (n + 1) (.fn 20) [(.ptr x0), (.int .i64 x1)] S = J20 (evF E o n) n x0 x1 S := (run20 o n [(.ptr x0), (.int .i64 x1)] S (ho _)).trans (J20_eq _ _ x0 x1 S)
def b21_l1_1_1_0_1_0 (call : CallA) (n : Nat) (j1_1_1_0_1_0_0_1_1_1 : Option Pos → Int → Int → Option Pos → Nat → Cap → Int → Int → AS → Option (AV × AS)) (j1_1_1_1 : Int → AS → Option (AV × AS)) (w0 : Option Pos) (w1 : Int) (w4 : AV) (w5 : AV) (w6 : Int) (w13a : Option Pos) (w13l : Nat) (w13c : Cap) (w14 : Int) (w15 : Int) (S : AS) : Option (AV × AS) :=
cond (decide (w15 < w14)) (
ixSl 1 w13a w13l w15 fun p3 =>
ldP S p3.1 p3.2 fun v4 =>
gO v4 fun p5 =>
ldI .u64 S p5.1 (p5.2 + 6) fun v6 =>
gO w0 fun p7 =>
ldI .u64 S p7.1 (p7.2 + 5) fun v8 =>
cond (decide (v6 > v8)) (
j1_1_1_0_1_0_0_1_1_1 w0 w1 w6 w13a w13l w13c w14 w15 S) (
cond (decide (w6 ≥ w1)) (
j1_1_1_1 w6 S) (
callI .i64 call 52 [(.ptr w0), (.ptr v4)] S fun v10 S9 =>
cond (v10 != 0) (
some (.tup [(.int .i64 w6), (.int .i64 v10)], S9)) (
j1_1_1_0_1_0_0_1_1_1 w0 w1 (IntKind.wrap .i64 (w6 + 1)) w13a w13l w13c w14 w15 S9)))) (
j1_1_1_1 w6 S)

def b21_j1_1_1_0_1_0_0_1_1_1 (call : CallA) (n : Nat) (l1_1_1_0_1_0 : Option Pos → Int → AV → AV → Int → Option Pos → Nat → Cap → Int → Int → AS → Option (AV × AS)) (w0 : Option Pos) (w1 : Int) (w6 : Int) (w13a : Option Pos) (w13l : Nat) (w13c : Cap) (w14 : Int) (w15 : Int) (S : AS) : Option (AV × AS) :=
l1_1_1_0_1_0 w0 w1 .undef .undef w6 w13a w13l w13c w14 (IntKind.wrap .i64 (w15 + 1)) S

def b21_j1_1_1_1 (call : CallA) (n : Nat)  (w6 : Int) (S : AS) : Option (AV × AS) :=
some (.tup [(.int .i64 w6), (.int .i64 0)], S)

def b21_entry (call : CallA) (n : Nat) (l1_1_1_0_1_0 : Option Pos → Int → AV → AV → Int → Option Pos → Nat → Cap → Int → Int → AS → Option (AV × AS)) (x0 : Option Pos) (x1 : Int) (S : AS) : Option (AV × AS) :=
cond x0.isNone (
some (.tup [(.int .i64 0), (.int .i64 7)], S)) (
callL call 51 [(.ptr x0)] S fun v2a v2l v2c S1 =>
l1_1_1_0_1_0 x0 x1 (.int .i64 0) (.int .i64 0) 0 v2a v2l v2c ((v2l : Nat) : Int) 0 S1)

def r21_l1_1_1_0_1_0 (call : CallA) (n : Nat)  (m : Nat) (w0 : Option Pos) (w1 : Int) (w4 : AV) (w5 : AV) (w6 : Int) (w13a : Option Pos) (w13l : Nat) (w13c : Cap) (w14 : Int) (w15 : Int) (S : AS) : Option (AV × AS) := loopN (evC E call n 21 (E.at 21 [1, 1, 1, 0, 1, 0, 0]) 0) [0, 1, 4, 5, 6, 13, 14, 15] m [(0, (.ptr w0)), (1, (.int .i64 w1)), (4, w4), (5, w5), (6, (.int .i64 w6)), (13, (.sl w13a w13l w13c)), (14, (.int .i64 w14)), (15, (.int .i64 w15))] S (kBlk 0 (kSeq E call n 21 (E.at 21 [1, 1, 1, 1]) 0 (retK E (E.fn 21))))
def r21_j1_1_1_0_1_0_0_1_1_1 (call : CallA) (n : Nat) (m1_1_1_0_1_0 : Nat) (w0 : Option Pos) (w1 : Int) (w6 : Int) (w13a : Option Pos) (w13l : Nat) (w13c : Cap) (w14 : Int) (w15 : Int) (S : AS) : Option (AV × AS) := evC E call n 21 (E.at 21 [1, 1, 1, 0, 1, 0, 0, 1, 1, 1]) 0 [(0, (.ptr w0)), (1, (.int .i64 w1)), (6, (.int .i64 w6)), (13, (.sl w13a w13l w13c)), (14, (.int .i64 w14)), (15, (.int .i64 w15))] S (kLp (evC E call n 21 (E.at 21 [1, 1, 1, 0, 1, 0, 0]) 0) [0, 1, 4, 5, 6, 13, 14, 15] m1_1_1_0_1_0 (kBlk 0 (kSeq E call n 21 (E.at 21 [1, 1, 1, 1]) 0 (retK E (E.fn 21)))))
def r21_j1_1_1_1 (call : CallA) (n : Nat)  (w6 : Int) (S : AS) : Option (AV × AS) := evC E call n 21 (E.at 21 [1, 1, 1, 1]) 0 [(6, (.int .i64 w6))] S (retK E (E.fn 21))
theorem a21_l1_1_1_0_1_0 (call : CallA) (n : Nat)  (m : Nat) (w0 : Option Pos) (w1 : Int) (w4 : AV) (w5 : AV) (w6 : Int) (w13a : Option Pos) (w13l : Nat) (w13c : Cap) (w14 : Int) (w15 : Int) (S : AS) : r21_l1_1_1_0_1_0 call n  (m + 1) w0 w1 w4 w5 w6 w13a w13l w13c w14 w15 S = b21_l1_1_1_0_1_0 call n (r21_j1_1_1_0_1_0_0_1_1_1 call n m) (r21_j1_1_1_1 call n ) w0 w1 w4 w5 w6 w13a w13l w13c w14 w15 S := by kernel_rfl
theorem a21_j1_1_1_0_1_0_0_1_1_1 (call : CallA) (n : Nat) (m1_1_1_0_1_0 : Nat) (w0 : Option Pos) (w1 : Int) (w6 : Int) (w13a : Option Pos) (w13l : Nat) (w13c : Cap) (w14 : Int) (w15 : Int) (S : AS) : r21_j1_1_1_0_1_0_0_1_1_1 call n m1_1_1_0_1_0 w0 w1 w6 w13a w13l w13c w14 w15 S = b21_j1_1_1_0_1_0_0_1_1_1 call n (r21_l1_1_1_0_1_0 call n  m1_1_1_0_1_0) w0 w1 w6 w13a w13l w13c w14 w15 S := by kernel_rfl
theorem a21_j1_1_1_1 (call : CallA) (n : Nat)  (w6 : Int) (S : AS) : r21_j1_1_1_1 call n  w6 S = b21_j1_1_1_1 call n  w6 S := by kernel_rfl
theorem a21_entry (call : CallA) (n : Nat) (x0 : Option Pos) (x1 : Int) (S : AS) : evC E call n 21 (E.at 21 []) 0 (enumT 0 [(.ptr x0), (.int .i64 x1)]) S (retK E (E.fn 21)) = b21_entry call n (r21_l1_1_1_0_1_0 call n  n) x0 x1 S := by kernel_rfl
def J21_j1_1_1_0_1_0_0_1_1_1 (call : CallA) (n : Nat) (n1_1_1_0_1_0 : Option Pos → Int → AV → AV → Int → Option Pos → Nat → Cap → Int → Int → AS → Option (AV × AS)) (w0 : Option Pos) (w1 : Int) (w6 : Int) (w13a : Option Pos) (w13l : Nat) (w13c : Cap) (w14 : Int) (w15 : Int) (S : AS) : Option (AV × AS) := b21_j1_1_1_0_1_0_0_1_1_1 call n n1_1_1_0_1_0 w0 w1 w6 w13a w13l w13c w14 w15 S
theorem h21_j1_1_1_0_1_0_0_1_1_1 (call : CallA) (n : Nat) (m1_1_1_0_1_0 : Nat) : r21_j1_1_1_0_1_0_0_1_1_1 call n m1_1_1_0_1_0 = J21_j1_1_1_0_1_0_0_1_1_1 call n (r21_l1_1_1_0_1_0 call n  m1_1_1_0_1_0) := by
  funext w0 w1 w6 w13a w13l w13c w14 w15 S
  rw [J21_j1_1_1_0_1_0_0_1_1_1, a21_j1_1_1_0_1_0_0_1_1_1]
def J21_j1_1_1_1 (call : CallA) (n : Nat)  (w6 : Int) (S : AS) : Option (AV × AS) := b21_j1_1_1_1 call n  w6 S
theorem h21_j1_1_1_1 (call : CallA) (n : Nat)  : r21_j1_1_1_1 call n  = J21_j1_1_1_1 call n  := by
  funext w6 S
  rw [J21_j1_1_1_1, a21_j1_1_1_1]
def J21_l1_1_1_0_1_0 (call : CallA) (n : Nat)  (m : Nat) : Option Pos → Int → AV → AV → Int → Option Pos → Nat → Cap → Int → Int → AS → Option (AV × AS) := Nat.rec (motive := fun _ => Option Pos → Int → AV → AV → Int → Option Pos → Nat → Cap → Int → Int → AS → Option (AV × AS)) (fun _ _ _ _ _ _ _ _ _ _ _ => none) (fun _ ih w0 w1 w4 w5 w6 w13a w13l w13c w14 w15 S => b21_l1_1_1_0_1_0 call n (J21_j1_1_1_0_1_0_0_1_1_1 call n ih) (J21_j1_1_1_1 call n ) w0 w1 w4 w5 w6 w13a w13l w13c w14 w15 S) m
theorem J21_l1_1_1_0_1_0_succ (call : CallA) (n : Nat)  (m : Nat) (w0 : Option Pos) (w1 : Int) (w4 : AV) (w5 : AV) (w6 : Int) (w13a : Option Pos) (w13l : Nat) (w13c : Cap) (w14 : Int) (w15 : Int) (S : AS) : J21_l1_1_1_0_1_0 call n  (m + 1) w0 w1 w4 w5 w6 w13a w13l w13c w14 w15 S = b21_l1_1_1_0_1_0 call n (J21_j1_1_1_0_1_0_0_1_1_1 call n (J21_l1_1_1_0_1_0 call n  m)) (J21_j1_1_1_1 call n ) w0 w1 w4 w5 w6 w13a w13l w13c w14 w15 S := rfl
theorem h21_l1_1_1_0_1_0 (call : CallA) (n : Nat)  (m : Nat) : r21_l1_1_1_0_1_0 call n  m = J21_l1_1_1_0_1_0 call n  m := by
  induction m with
  | zero => rfl
  | succ m ih =>
    funext w0 w1 w4 w5 w6 w13a w13l w13c w14 w15 S
    rw [J21_l1_1_1_0_1_0_succ, a21_l1_1_1_0_1_0, h21_j1_1_1_0_1_0_0_1_1_1 call n m, h21_j1_1_1_1 call n , ih]
def J21 (call : CallA) (n : Nat) (x0 : Option Pos) (x1 : Int) (S : AS) : Option (AV × AS) := b21_entry call n (J21_l1_1_1_0_1_0 call n  n) x0 x1 S
theorem run21 (o : Orc) (n : Nat) (args : List AV) (S : AS) (ho : o 21 args = none) : evF E o (n + 1) (.fn 21) args S = evC E (evF E o n) n 21 (E.at 21 []) 0 (enumT 0 args) S (retK E (E.fn 21)) := by
  rw [evF, ho]; kernel_rfl
theorem J21_eq (call : CallA) (n : Nat) (x0 : Option Pos) (x1 : Int) (S : AS) : evC E call n 21 (E.at 21 []) 0 (enumT 0 [(.ptr x0), (.int .i64 x1)]) S (retK E (E.fn 21)) = J21 call n x0 x1 S := by
  rw [J21, a21_entry, h21_l1_1_1_0_1_0 call n  n]
theorem F21 {o : Orc} (n : Nat) (x0 : Option Pos) (x1 : Int) (S : AS) (ho : ∀ args, o 21 args = none) : evF E o (n + 1) (.fn 21) [(.ptr x0), (.int .i64 x1)] S = J21 (evF E o n) n x0 x1 S := (run21 o n [(.ptr x0), (.int .i64 x1)] S (ho _)).trans (J21_eq _ _ x0 x1 S)
def b22_entry (call : CallA) (n : Nat)  (x0 : Option Pos) (S : AS) : Option (AV × AS) :=
cond x0.isNone (
some (.tup [(.int .u64 0), (.bool false)], S)) (
callL call 51 [(.ptr x0)] S fun v2a v2l v2c S1 =>
cond (((v2l : Nat) : Int) == 0) (
some (.tup [(.int .u64 0), (.bool false)], S1)) (
ixSl 1 v2a v2l 0 fun p3 =>
ldP S1 p3.1 p3.2 fun v4 =>
gO v4 fun p5 =>
ldI .u64 S1 p5.1 (p5.2 + 5) fun v6 =>
some (.tup [(.int .u64 v6), (.bool true)], S1)))

theorem a22_entry (call : CallA) (n : Nat) (x0 : Option Pos) (S : AS) : evC E call n 22 (E.at 22 []) 0 (enumT 0 [(.ptr x0)]) S (retK E (E.fn 22)) = b22_entry call n  x0 S := by kernel_rfl
def J22 (call : CallA) (n : Nat) (x0 : Option Pos) (S : AS) : Option (AV × AS) := b22_entry call n  x0 S
theorem run22 (o : Orc) (n : Nat) (args : List AV) (S : AS) (ho : o 22 args = none) : evF E o (n + 1) (.fn 22) args S = evC E (evF E o n) n 22 (E.at 22 []) 0 (enumT 0 args) S (retK E (E.fn 22)) := by
  rw [evF, ho]; kernel_rfl
theorem J22_eq (call : CallA) (n : Nat) (x0 : Option Pos) (S : AS) : evC E call n 22 (E.at 22 []) 0 (enumT 0 [(.ptr x0)]) S (retK E (E.fn 22)) = J22 call n x0 S := by
  rw [J22, a22_entry]
theorem F22 {o : Orc} (n : Nat) (x0 : Option Pos) (S : AS) (ho : ∀ args, o 22 args = none) : evF E o (n + 1) (.fn 22) [(.ptr x0)] S = J22 (evF E o n) n x0 S := (run22 o n [(.ptr x0)] S (ho _)).trans (J22_eq _ _ x0 S)
def b23_entry (call : CallA) (n : Nat)  (x0 : Option Pos) (S : AS) : Option (AV × AS) :=
cond x0.isNone (
some (.tup [(.int .i64 0), (.int .i64 0)], S)) (
gO x0 fun p1 =>
ldI .i64 S p1.1 (p1.2 + 6) fun v2 =>
gO x0 fun p3 =>
ldI .i64 S p3.1 (p3.2 + 7) fun v4 =>
some (.tup [(.int .i64 v2), (.int .i64 v4)], S))

theorem a23_entry (call : CallA) (n : Nat) (x0 : Option Pos) (S : AS) : evC E call n 23 (E.at 23 []) 0 (enumT 0 [(.ptr x0)]) S (retK E (E.fn 23)) = b23_entry call n  x0 S := by kernel_rfl
def J23 (call : CallA) (n : Nat) (x0 : Option Pos) (S : AS) : Option (AV × AS) := b23_entry call n  x0 S
theorem run23 (o : Orc) (n : Nat) (args : List AV) (S : AS) (ho : o 23 args = none) : evF E o (n + 1) (.fn 23) args S = evC E (evF E o n) n 23 (E.at 23 []) 0 (enumT 0 args) S (retK E (E.fn 23)) := by
  rw [evF, ho]; kernel_rfl
theorem J23_eq (call : CallA) (n : Nat) (x0 : Option Pos) (S : AS) : evC E call n 23 (E.at 23 []) 0 (enumT 0 [(.ptr x0)]) S (retK E (E.fn 23)) = J23 call n x0 S := by
  rw [J23, a23_entry]
theorem F23 {o : Orc} (n : Nat) (x0 : Option Pos) (S : AS) (ho : ∀ args, o 23 args = none) : evF E o (n + 1) (.fn 23) [(.ptr x0)] S = J23 (evF E o n) n x0 S := (run23 o n [(.ptr x0)] S (ho _)).trans (J23_eq _ _ x0 S)
def b24_entry (call : CallA) (n : Nat)  (x0 : Option Pos) (x1 : Int) (S : AS) : Option (AV × AS) :=
cond (!x0.isNone) (
gO x0 fun p1 =>
ldI .u64 S p1.1 (p1.2 + 5) fun v2 =>
gO x0 fun p3 =>
S.stn p3.1 (p3.2 + 5) [(.int .u64 (if v2 < x1 then x1 else v2))] fun S4 =>
some (.tup [], S4)) (
some (.tup [], S))

theorem a24_entry (call : CallA) (n : Nat) (x0 : Option Pos) (x1 : Int) (S : AS) : evC E call n 24 (E.at 24 []) 0 (enumT 0 [(.ptr x0), (.int .u64 x1)]) S (retK E (E.fn 24)) = b24_entry call n  x0 x1 S := by kernel_rfl
def J24 (call : CallA) (n : Nat) (x0 : Option Pos) (x1 : Int) (S : AS) : Option (AV × AS) := b24_entry call n  x0 x1 S
theorem run24 (o : Orc) (n : Nat) (args : List AV) (S : AS) (ho : o 24 args = none) : evF E o (n + 1) (.fn 24) args S = evC E (evF E o n) n 24 (E.at 24 []) 0 (enumT 0 args) S (retK E (E.fn 24)) := by
  rw [evF, ho]; kernel_rfl
theorem J24_eq (call : CallA) (n : Nat) (x0 : Option Pos) (x1 : Int) (S : AS) : evC E call n 24 (E.at 24 []) 0 (enumT 0 [(.ptr x0), (.int .u64 x1)]) S (retK E (E.fn 24)) = J24 call n x0 x1 S := by
  rw [J24, a24_entry]
theorem F24 {o : Orc} (n : Nat) (x0 : Option Pos) (x1 : Int) (S : AS) (ho : ∀ args, o 24 args = none) : evF E o (n + 1) (.fn 24) [(.ptr x0), (.int .u64 x1)] S = J24 (evF E o n) n x0 x1 S := (run24 o n [(.ptr x0), (.int .u64 x1)] S (ho _)).trans (J24_eq _ _ x0 x1 S)
def b25_entry (call : CallA) (n : Nat)  (x0 : Int) (S : AS) : Option (AV × AS) :=
some ((.int .i64 x0), S)

theorem a25_entry (call : CallA) (n : Nat) (x0 : Int) (S : AS) : evC E call n 25 (E.at 25 []) 0 (enumT 0 [(.int .i64 x0)]) S (retK E (E.fn 25)) = b25_entry call n  x0 S := by kernel_rfl
def J25 (call : CallA) (n : Nat) (x0 : Int) (S : AS) : Option (AV × AS) := b25_entry call n  x0 S
theorem run25 (o : Orc) (n : Nat) (args : List AV) (S : AS) (ho : o 25 args = none) : evF E o (n + 1) (.fn 25) args S = evC E (evF E o n) n 25 (E.at 25 []) 0 (enumT 0 args) S (retK E (E.fn 25)) := by
  rw [evF, ho]; kernel_rfl
theorem J25_eq (call : CallA) (n : Nat) (x0 : Int) (S : AS) : evC E call n 25 (E.at 25 []) 0 (enumT 0 [(.int .i64 x0)]) S (retK E (E.fn 25)) = J25 call n x0 S := by
  rw [J25, a25_entry]
theorem F25 {o : Orc} (n : Nat) (x0 : Int) (S : AS) (ho : ∀ args, o 25 args = none) : evF E o (n + 1) (.fn 25) [(.int .i64 x0)] S = J25 (evF E o n) n x0 S := (run25 o n [(.int .i64 x0)] S (ho _)).trans (J25_eq _ _ x0 S)
def b26_j1_1_1_1_1 (call : CallA) (n : Nat) (j1_1_1_1_1_1_1_1_1 : Int → Option Pos → AS → Option (AV × AS)) (w0 : Option Pos) (w2a : Option Pos) (w2l : Nat) (w2c : Cap) (w3 : Int) (w10 : Option Pos) (S : AS) : Option (AV × AS) :=
gO w10 fun p11 =>
ldL S p11.1 (p11.2 + 3) fun v12a v12l v12c =>
clearA [(.int .u8 0)] S v12a v12l fun S13 =>
gO w10 fun p14 =>
ldL S13 p14.1 (p14.2 + 3) fun v15a v15l v15c =>
copyA 1 S13 v15a v15l w2l (.sl w2a w2l w2c) fun n16 S17 =>
callT call 56 [(.ptr w0), (.ptr w10)] S17 fun v19 S18 =>
gO w10 fun p20 =>
ldB S18 p20.1 (p20.2 + 4) fun v21 =>
cond (!v21) (
gO w10 fun p22 =>
S18.stn p22.1 (p22.2 + 4) [(.bool true)] fun S23 =>
gO w10 fun p24 =>
S23.stn p24.1 (p24.2 + 5) [(.int .u64 w3)] fun S25 =>
j1_1_1_1_1_1_1_1_1 w3 w10 S25) (
j1_1_1_1_1_1_1_1_1 w3 w10 S18)

def b26_j1_1_1_1_1_1_1_1_1 (call : CallA) (n : Nat)  (w3 : Int) (w10 : Option Pos) (S : AS) : Option (AV × AS) :=
gO w10 fun p26 =>
S.stn p26.1 (p26.2 + 6) [(.int .u64 w3)] fun S27 =>
some ((.int .i64 0), S27)

def b26_entry (call : CallA) (n : Nat) (j1_1_1_1_1 : Option Pos → Option Pos → Nat → Cap → Int → Option Pos → AS → Option (AV × AS)) (x0 : Option Pos) (x1 : Int) (x2a : Option Pos) (x2l : Nat) (x2c : Cap) (x3 : Int) (S : AS) : Option (AV × AS) :=
callI .i64 call 53 [(.ptr x0), (.int .i64 x1)] S fun v2 S1 =>
cond (v2 != 0) (
some ((.int .i64 v2), S1)) (
cond (decide (((x2l : Nat) : Int) > 384)) (
some ((.int .i64 1), S1)) (
gO x0 fun p3 =>
ldM S1 p3.1 (p3.2 + 2) fun v4 =>
mapAt ty95 ty3.k S1 v4 (.int .i64 x1) fun v5 v5k =>
gP v5 fun v6 =>
cond v6.isNone (
callI .i64 call 54 [(.ptr x0)] S1 fun v8 S7 =>
cond (v8 != 0) (
some ((.int .i64 v8), S7)) (
callP call 55 [(.ptr x0), (.int .i64 x1), (.sl none 0 (.ex 0))] S7 fun v10 S9 =>
j1_1_1_1_1 x0 x2a x2l x2c x3 v10 S9)) (
j1_1_1_1_1 x0 x2a x2l x2c x3 v6 S1)))

def r26_j1_1_1_1_1 (call : CallA) (n : Nat)  (w0 : Option Pos) (w2a : Option Pos) (w2l : Nat) (w2c : Cap) (w3 : Int) (w10 : Option Pos) (S : AS) : Option (AV × AS) := evC E call n 26 (E.at 26 [1, 1, 1, 1, 1]) 0 [(0, (.ptr w0)), (2, (.sl w2a w2l w2c)), (3, (.int .u64 w3)), (10, (.ptr w10))] S (retK E (E.fn 26))
def r26_j1_1_1_1_1_1_1_1_1 (call : CallA) (n : Nat)  (w3 : Int) (w10 : Option Pos) (S : AS) : Option (AV × AS) := evC E call n 26 (E.at 26 [1, 1, 1, 1, 1, 1, 1, 1, 1]) 0 [(3, (.int .u64 w3)), (10, (.ptr w10))] S (retK E (E.fn 26))
theorem a26_j1_1_1_1_1 (call : CallA) (n : Nat)  (w0 : Option Pos) (w2a : Option Pos) (w2l : Nat) (w2c : Cap) (w3 : Int) (w10 : Option Pos) (S : AS) : r26_j1_1_1_1_1 call n  w0 w2a w2l w2c w3 w10 S = b26_j1_1_1_1_1 call n (r26_j1_1_1_1_1_1_1_1_1 call n ) w0 w2a w2l w2c w3 w10 S := by kernel_rfl
theorem a26_j1_1_1_1_1_1_1_1_1 (call : CallA) (n : Nat)  (w3 : Int) (w10 : Option Pos) (S : AS) : r26_j1_1_1_1_1_1_1_1_1 call n  w3 w10 S = b26_j1_1_1_1_1_1_1_1_1 call n  w3 w10 S := by kernel_rfl
theorem a26_entry (call : CallA) (n : Nat) (x0 : Option Pos) (x1 : Int) (x2a : Option Pos) (x2l : Nat) (x2c : Cap) (x3 : Int) (S : AS) : evC E call n 26 (E.at 26 []) 0 (enumT 0 [(.ptr x0), (.int .i64 x1), (.sl x2a x2l x2c), (.int .u64 x3)]) S (retK E (E.fn 26)) = b26_entry call n (r26_j1_1_1_1_1 call n ) x0 x1 x2a x2l x2c x3 S := by kernel_rfl
def J26_j1_1_1_1_1_1_1_1_1 (call : CallA) (n : Nat)  (w3 : Int) (w10 : Option Pos) (S : AS) : Option (AV × AS) := b26_j1_1_1_1_1_1_1_1_1 call n  w3 w10 S
theorem h26_j1_1_1_1_1_1_1_1_1 (call : CallA) (n : Nat)  : r26_j1_1_1_1_1_1_1_1_1 call n  = J26_j1_1_1_1_1_1_1_1_1 call n  := by
  funext w3 w10 S
  rw [J26_j1_1_1_1_1_1_1_1_1, a26_j1_1_1_1_1_1_1_1_1]
def J26_j1_1_1_1_1 (call : CallA) (n : Nat)  (w0 : Option Pos) (w2a : Option Pos) (w2l : Nat) (w2c : Cap) (w3 : Int) (w10 : Option Pos) (S : AS) : Option (AV × AS) := b26_j1_1_1_1_1 call n (J26_j1_1_1_1_1_1_1_1_1 call n ) w0 w2a w2l w2c w3 w10 S
theorem h26_j1_1_1_1_1 (call : CallA) (n : Nat)  : r26_j1_1_1_1_1 call n  = J26_j1_1_1_1_1 call n  := by
  funext w0 w2a w2l w2c w3 w10 S
  rw [J26_j1_1_1_1_1, a26_j1_1_1_1_1, h26_j1_1_1_1_1_1_1_1_1 call n ]
def J26 (call : CallA) (n : Nat) (x0 : Option Pos) (x1 : Int) (x2a : Option Pos) (x2l : Nat) (x2c : Cap) (x3 : Int) (S : AS) : Option (AV × AS) := b26_entry call n (J26_j1_1_1_1_1 call n ) x0 x1 x2a x2l x2c x3 S
theorem run26 (o : Orc) (n : Nat) (args : List AV) (S : AS) (ho : o 26 args = none) : evF E o (n + 1) (.fn 26) args S = evC E (evF E o n) n 26 (E.at 26 []) 0 (enumT 0 args) S (retK E (E.fn 26)) := by
  rw [evF, ho]; kernel_rfl
theorem J26_eq (call : CallA) (n : Nat) (x0 : Option Pos) (x1 : Int) (x2a : Option Pos) (x2l : Nat) (x2c : Cap) (x3 : Int) (S : AS) : evC E call n 26 (E.at 26 []) 0 (enumT 0 [(.ptr x0), (.int .i64 x1), (.sl x2a x2l x2c), (.int .u64 x3)]) S (retK E (E.fn 26)) = J26 call n x0 x1 x2a x2l x2c x3 S := by
  rw [J26, a26_entry, h26_j1_1_1_1_1 call n ]
theorem F26 {o : Orc} (n : Nat) (x0 : Option Pos) (x1 : Int) (x2a : Option Pos) (x2l : Nat) (x2c : Cap) (x3 : Int) (S : AS) (ho : ∀ args, o 26 args = none) : evF E o (n + 1) (.fn 26) [(.ptr x0), (.int .i64 x1), (.sl x2a x2l x2c), (.int .u64 x3)] S = J26 (evF E o n) n x0 x1 x2a x2l x2c x3 S := (run26 o n [(.ptr x0), (.int .i64 x1), (.sl x2a x2l x2c), (.int .u64 x3)] S (ho _)).trans (J26_eq _ _ x0 x1 x2a x2l x2c x3 S)
def b27_entry (call : CallA) (n : Nat)  (x0 : Option Pos) (x1 : Int) (S : AS) : Option (AV × AS) :=
callT call 49 [(.ptr x0), (.int .i64 x1)] S fun v2 S1 =>
atP v2 0 fun v3 =>
atI .i64 v2 1 fun v4 =>
cond (v4 == 0) (
gO v3 fun p5 =>
ldI .i64 S1 p5.1 (p5.2 + 7) fun v6 =>
gO v3 fun p7 =>
S1.stn p7.1 (p7.2 + 7) [(.int .i64 (IntKind.wrap .i64 (v6 + 1)))] fun S8 =>
some ((.int .i64 v4), S8)) (
some ((.int .i64 v4), S1))

theorem a27_entry (call : CallA) (n : Nat) (x0 : Option Pos) (x1 : Int) (S : AS) : evC E call n 27 (E.at 27 []) 0 (enumT 0 [(.ptr x0), (.int .i64 x1)]) S (retK E (E.fn 27)) = b27_entry call n  x0 x1 S := by kernel_rfl
def J27 (call : CallA) (n : Nat) (x0 : Option Pos) (x1 : Int) (S : AS) : Option (AV × AS) := b27_entry call n  x0 x1 S
theorem run27 (o : Orc) (n : Nat) (args : List AV) (S : AS) (ho : o 27 args = none) : evF E o (n + 1) (.fn 27) args S = evC E (evF E o n) n 27 (E.at 27 []) 0 (enumT 0 args) S (retK E (E.fn 27)) := by
  rw [evF, ho]; kernel_rfl
theorem J27_eq (call : CallA) (n : Nat) (x0 : Option Pos) (x1 : Int) (S : AS) : evC E call n 27 (E.at 27 []) 0 (enumT 0 [(.ptr x0), (.int .i64 x1)]) S (retK E (E.fn 27)) = J27 call n x0 x1 S := by
  rw [J27, a27_entry]
theorem F27 {o : Orc} (n : Nat) (x0 : Option Pos) (x1 : Int) (S : AS) (ho : ∀ args, o 27 args = none) : evF E o (n + 1) (.fn 27) [(.ptr x0), (.int .i64 x1)] S = J27 (evF E o n) n x0 x1 S := (run27 o n [(.ptr x0), (.int .i64 x1)] S (ho _)).trans (J27_eq _ _ x0 x1 S)
def b28_entry (call : CallA) (n : Nat)  (x0 : Option Pos) (x1 : Int) (S : AS) : Option (AV × AS) :=
cond x0.isNone (
some ((.int .i64 7), S)) (
gO x0 fun p1 =>
ldM S p1.1 (p1.2 + 2) fun v2 =>
mapAt ty95 ty3.k S v2 (.int .i64 x1) fun v3 v3k =>
gP v3 fun v4 =>
cond v4.isNone (
some ((.int .i64 92), S)) (
gO v4 fun p5 =>
ldI .i64 S p5.1 (p5.2 + 7) fun v6 =>
cond (v6 == 0) (
some ((.int .i64 92), S)) (
gO v4 fun p7 =>
ldI .i64 S p7.1 (p7.2 + 7) fun v8 =>
gO v4 fun p9 =>
S.stn p9.1 (p9.2 + 7) [(.int .i64 (IntKind.wrap .i64 (v8 - 1)))] fun S10 =>
some ((.int .i64 0), S10))))

theorem a28_entry (call : CallA) (n : Nat) (x0 : Option Pos) (x1 : Int) (S : AS) : evC E call n 28 (E.at 28 []) 0 (enumT 0 [(.ptr x0), (.int .i64 x1)]) S (retK E (E.fn 28)) = b28_entry call n  x0 x1 S := by kernel_rfl
def J28 (call : CallA) (n : Nat) (x0 : Option Pos) (x1 : Int) (S : AS) : Option (AV × AS) := b28_entry call n  x0 x1 S
theorem run28 (o : Orc) (n : Nat) (args : List AV) (S : AS) (ho : o 28 args = none) : evF E o (n + 1) (.fn 28) args S = evC E (evF E o n) n 28 (E.at 28 []) 0 (enumT 0 args) S (retK E (E.fn 28)) := by
  rw [evF, ho]; kernel_rfl
theorem J28_eq (call : CallA) (n : Nat) (x0 : Option Pos) (x1 : Int) (S : AS) : evC E call n 28 (E.at 28 []) 0 (enumT 0 [(.ptr x0), (.int .i64 x1)]) S (retK E (E.fn 28)) = J28 call n x0 x1 S := by
  rw [J28, a28_entry]
theorem F28 {o : Orc} (n : Nat) (x0 : Option Pos) (x1 : Int) (S : AS) (ho : ∀ args, o 28 args = none) : evF E o (n + 1) (.fn 28) [(.ptr x0), (.int .i64 x1)] S = J28 (evF E o n) n x0 x1 S := (run28 o n [(.ptr x0), (.int .i64 x1)] S (ho _)).trans (J28_eq _ _ x0 x1 S)
def b29_entry (call : CallA) (n : Nat)  (x0 : Option Pos) (S : AS) : Option (AV × AS) :=
cond x0.isNone (
some ((.int .i64 7), S)) (
gO x0 fun p1 =>
ldM S p1.1 (p1.2 + 2) fun v2 =>
S.mapLen v2 fun n3 =>
callT call 21 [(.ptr x0), (.int .i64 ((n3 : Nat) : Int))] S fun v5 S4 =>
atI .i64 v5 0 fun v6 =>
atI .i64 v5 1 fun v7 =>
cond (v7 != 0) (
some ((.int .i64 v7), S4)) (
gO x0 fun p8 =>
ldV S4 p8.1 p8.2 fun v9 =>
invV E call v9 "Flush" [] S4 fun v11 S10 =>
gIk .i64 v11 fun v12 =>
cond (v12 != 0) (
some ((.int .i64 v12), S10)) (
callL call 51 [(.ptr x0)] S10 fun v14a v14l v14c S13 =>
cond (decide (((v14l : Nat) : Int) > 0)) (
some ((.int .i64 91), S13)) (
some ((.int .i64 0), S13)))))

theorem a29_entry (call : CallA) (n : Nat) (x0 : Option Pos) (S : AS) : evC E call n 29 (E.at 29 []) 0 (enumT 0 [(.ptr x0)]) S (retK E (E.fn 29)) = b29_entry call n  x0 S := by kernel_rfl
def J29 (call : CallA) (n : Nat) (x0 : Option Pos) (S : AS) : Option (AV × AS) := b29_entry call n  x0 S
theorem run29 (o : Orc) (n : Nat) (args : List AV) (S : AS) (ho : o 29 args = none) : evF E o (n + 1) (.fn 29) args S = evC E (evF E o n) n 29 (E.at 29 []) 0 (enumT 0 args) S (retK E (E.fn 29)) := by
  rw [evF, ho]; kernel_rfl
theorem J29_eq (call : CallA) (n : Nat) (x0 : Option Pos) (S : AS) : evC E call n 29 (E.at 29 []) 0 (enumT 0 [(.ptr x0)]) S (retK E (E.fn 29)) = J29 call n x0 S := by
  rw [J29, a29_entry]
theorem F29 {o : Orc} (n : Nat) (x0 : Option Pos) (S : AS) (ho : ∀ args, o 29 args = none) : evF E o (n + 1) (.fn 29) [(.ptr x0)] S = J29 (evF E o n) n x0 S := (run29 o n [(.ptr x0)] S (ho _)).trans (J29_eq _ _ x0 S)
def b30_entry (call : CallA) (n : Nat)  (x0 : Option Pos) (x1 : Int) (S : AS) : Option (AV × AS) :=
callI .i64 call 53 [(.ptr x0), (.int .i64 x1)] S fun v2 S1 =>
cond (v2 != 0) (
some ((.int .i64 v2), S1)) (
gO x0 fun p3 =>
ldM S1 p3.1 (p3.2 + 2) fun v4 =>
mapAt ty95 ty3.k S1 v4 (.int .i64 x1) fun v5 v5k =>
gP v5 fun v6 =>
cond v6.isNone (
some ((.int .i64 0), S1)) (
gO v6 fun p7 =>
ldI .i64 S1 p7.1 (p7.2 + 7) fun v8 =>
cond (decide (v8 > 0)) (
some ((.int .i64 90), S1)) (
callT call 57 [(.ptr x0), (.ptr v6)] S1 fun v10 S9 =>
gO x0 fun p11 =>
ldM S9 p11.1 (p11.2 + 2) fun v12 =>
mapDel ty3.k S9 v12 (.int .i64 x1) fun S13 =>
some ((.int .i64 0), S13))))

theorem a30_entry (call : CallA) (n : Nat) (x0 : Option Pos) (x1 : Int) (S : AS) : evC E call n 30 (E.at 30 []) 0 (enumT 0 [(.ptr x0), (.int .i64 x1)]) S (retK E (E.fn 30)) = b30_entry call n  x0 x1 S := by kernel_rfl
def J30 (call : CallA) (n : Nat) (x0 : Option Pos) (x1 : Int) (S : AS) : Option (AV × AS) := b30_entry call n  x0 x1 S
theorem run30 (o : Orc) (n : Nat) (args : List AV) (S : AS) (ho : o 30 args = none) : evF E o (n + 1) (.fn 30) args S = evC E (evF E o n) n 30 (E.at 30 []) 0 (enumT 0 args) S (retK E (E.fn 30)) := by
  rw [evF, ho]; kernel_rfl
theorem J30_eq (call : CallA) (n : Nat) (x0 : Option Pos) (x1 : Int) (S : AS) : evC E call n 30 (E.at 30 []) 0 (enumT 0 [(.ptr x0), (.int .i64 x1)]) S (retK E (E.fn 30)) = J30 call n x0 x1 S := by
  rw [J30, a30_entry]
theorem F30 {o : Orc} (n : Nat) (x0 : Option Pos) (x1 : Int) (S : AS) (ho : ∀ args, o 30 args = none) : evF E o (n + 1) (.fn 30) [(.ptr x0), (.int .i64 x1)] S = J30 (evF E o n) n x0 x1 S := (run30 o n [(.ptr x0), (.int .i64 x1)] S (ho _)).trans (J30_eq _ _ x0 x1 S)
def b31_l1_1_1_0_1_0 (call : CallA) (n : Nat) (l1_1_1_0_1_0 : Option Pos → Nat → Cap → Option Pos → Nat → Cap → Int → Int → AS → Option (AV × AS)) (w3a : Option Pos) (w3l : Nat) (w3c : Cap) (w9a : Option Pos) (w9l : Nat) (w9c : Cap) (w10 : Int) (w11 : Int) (S : AS) : Option (AV × AS) :=
cond (decide (w11 < w10)) (
ixSl 1 w9a w9l w11 fun p3 =>
ldP S p3.1 p3.2 fun v4 =>
drawA S 21 fun b5 S6 =>
gO v4 fun p7 =>
ldI .i64 S6 p7.1 (p7.2 + 2) fun v8 =>
gO v4 fun p9 =>
ldI .u64 S6 p9.1 (p9.2 + 5) fun v10 =>
gO v4 fun p11 =>
ldI .u64 S6 p11.1 (p11.2 + 6) fun v12 =>
gO v4 fun p13 =>
ldI .i64 S6 p13.1 (p13.2 + 7) fun v14 =>
layA S6 (b5 + 18) (.cells [(.int .i64 v8), (.int .u64 v10), (.int .u64 v12), (.int .i64 v14)]) fun S15 =>
appendA 4 32 S15 w3a w3l w3c 1 (firstA S15 4 1 (.sl (some (.rw (b5 + 18), 0)) 1 (.ex 1))) fun v16a v16l v16c S17 =>
l1_1_1_0_1_0 v16a v16l v16c w9a w9l w9c w10 (IntKind.wrap .i64 (w11 + 1)) S17) (
some ((.sl w3a w3l w3c), S))

def b31_entry (call : CallA) (n : Nat) (l1_1_1_0_1_0 : Option Pos → Nat → Cap → Option Pos → Nat → Cap → Int → Int → AS → Option (AV × AS)) (x0 : Option Pos) (S : AS) : Option (AV × AS) :=
cond x0.isNone (
some ((.sl none 0 (.ex 0)), S)) (
callL call 51 [(.ptr x0)] S fun v2a v2l v2c S1 =>
l1_1_1_0_1_0 none 0 (.ex 0) v2a v2l v2c ((v2l : Nat) : Int) 0 S1)

def r31_l1_1_1_0_1_0 (call : CallA) (n : Nat)  (m : Nat) (w3a : Option Pos) (w3l : Nat) (w3c : Cap) (w9a : Option Pos) (w9l : Nat) (w9c : Cap) (w10 : Int) (w11 : Int) (S : AS) : Option (AV × AS) := loopN (evC E call n 31 (E.at 31 [1, 1, 1, 0, 1, 0, 0]) 0) [3, 9, 10, 11] m [(3, (.sl w3a w3l w3c)), (9, (.sl w9a w9l w9c)), (10, (.int .i64 w10)), (11, (.int .i64 w11))] S (kBlk 0 (kSeq E call n 31 (E.at 31 [1, 1, 1, 1]) 0 (retK E (E.fn 31))))
theorem a31_l1_1_1_0_1_0 (call : CallA) (n : Nat)  (m : Nat) (w3a : Option Pos) (w3l : Nat) (w3c : Cap) (w9a : Option Pos) (w9l : Nat) (w9c : Cap) (w10 : Int) (w11 : Int) (S : AS) : r31_l1_1_1_0_1_0 call n  (m + 1) w3a w3l w3c w9a w9l w9c w10 w11 S = b31_l1_1_1_0_1_0 call n (r31_l1_1_1_0_1_0 call n  m) w3a w3l w3c w9a w9l w9c w10 w11 S := by kernel_rfl
theorem a31_entry (call : CallA) (n : Nat) (x0 : Option Pos) (S : AS) : evC E call n 31 (E.at 31 []) 0 (enumT 0 [(.ptr x0)]) S (retK E (E.fn 31)) = b31_entry call n (r31_l1_1_1_0_1_0 call n  n) x0 S := by kernel_rfl
def J31_l1_1_1_0_1_0 (call : CallA) (n : Nat)  (m : Nat) : Option Pos → Nat → Cap → Option Pos → Nat → Cap → Int → Int → AS → Option (AV × AS) := Nat.rec (motive := fun _ => Option Pos → Nat → Cap → Option Pos → Nat → Cap → Int → Int → AS → Option (AV × AS)) (fun _ _ _ _ _ _ _ _ _ => none) (fun _ ih w3a w3l w3c w9a w9l w9c w10 w11 S => b31_l1_1_1_0_1_0 call n ih w3a w3l w3c w9a w9l w9c w10 w11 S) m
theorem J31_l1_1_1_0_1_0_succ (call : CallA) (n : Nat)  (m : Nat) (w3a : Option Pos) (w3l : Nat) (w3c : Cap) (w9a : Option Pos) (w9l : Nat) (w9c : Cap) (w10 : Int) (w11 : Int) (S : AS) : J31_l1_1_1_0_1_0 call n  (m + 1) w3a w3l w3c w9a w9l w9c w10 w11 S = b31_l1_1_1_0_1_0 call n (J31_l1_1_1_0_1_0 call n  m) w3a w3l w3c w9a w9l w9c w10 w11 S := rfl
theorem h31_l1_1_1_0_1_0 (call : CallA) (n : Nat)  (m : Nat) : r31_l1_1_1_0_1_0 call n  m = J31_l1_1_1_0_1_0 call n  m := by
  induction m with
  | zero => rfl
  | succ m ih =>
    funext w3a w3l w3c w9a w9l w9c w10 w11 S
    rw [J31_l1_1_1_0_1_0_succ, a31_l1_1_1_0_1_0, ih]
def J31 (call : CallA) (n : Nat) (x0 : Option Pos) (S : AS) : Option (AV × AS) := b31_entry call n (J31_l1_1_1_0_1_0 call n  n) x0 S
theorem run31 (o : Orc) (n : Nat) (args : List AV) (S : AS) (ho : o 31 args = none) : evF E o (n + 1) (.fn 31) args S = evC E (evF E o n) n 31 (E.at 31 []) 0 (enumT 0 args) S (retK E (E.fn 31)) := by
  rw [evF, ho]; kernel_rfl
theorem J31_eq (call : CallA) (n : Nat) (x0 : Option Pos) (S : AS) : evC E call n 31 (E.at 31 []) 0 (enumT 0 [(.ptr x0)]) S (retK E (E.fn 31)) = J31 call n x0 S := by
  rw [J31, a31_entry, h31_l1_1_1_0_1_0 call n  n]
theorem F31 {o : Orc} (n : Nat) (x0 : Option Pos) (S : AS) (ho : ∀ args, o 31 args = none) : evF E o (n + 1) (.fn 31) [(.ptr x0)] S = J31 (evF E o n) n x0 S := (run31 o n [(.ptr x0)] S (ho _)).trans (J31_eq _ _ x0 S)
def b32_l1_1_1_0_1_0 (call : CallA) (n : Nat) (l1_1_1_0_1_0 : Option Pos → Nat → Cap → Option Pos → AS → Option (AV × AS)) (w3a : Option Pos) (w3l : Nat) (w3c : Cap) (w4 : Option Pos) (S : AS) : Option (AV × AS) :=
cond (!w4.isNone) (
gO w4 fun p3 =>
ldI .i64 S p3.1 (p3.2 + 2) fun v4 =>
newA S (.cells [(.int .i64 v4)]) fun b5 S6 =>
appendA 1 8 S6 w3a w3l w3c 1 (firstA S6 1 1 (.sl (some (.rw b5, 0)) 1 (.ex 1))) fun v7a v7l v7c S8 =>
gO w4 fun p9 =>
ldP S8 p9.1 (p9.2 + 1) fun v10 =>
l1_1_1_0_1_0 v7a v7l v7c v10 S8) (
some ((.sl w3a w3l w3c), S))

def b32_entry (call : CallA) (n : Nat) (l1_1_1_0_1_0 : Option Pos → Nat → Cap → Option Pos → AS → Option (AV × AS)) (x0 : Option Pos) (S : AS) : Option (AV × AS) :=
cond x0.isNone (
some ((.sl none 0 (.ex 0)), S)) (
gO x0 fun p1 =>
ldP S p1.1 (p1.2 + 3) fun v2 =>
l1_1_1_0_1_0 none 0 (.ex 0) v2 S)

def r32_l1_1_1_0_1_0 (call : CallA) (n : Nat)  (m : Nat) (w3a : Option Pos) (w3l : Nat) (w3c : Cap) (w4 : Option Pos) (S : AS) : Option (AV × AS) := loopN (evC E call n 32 (E.at 32 [1, 1, 1, 0, 1, 0, 0]) 0) [3, 4] m [(3, (.sl w3a w3l w3c)), (4, (.ptr w4))] S (kBlk 0 (kSeq E call n 32 (E.at 32 [1, 1, 1, 1]) 0 (retK E (E.fn 32))))
theorem a32_l1_1_1_0_1_0 (call : CallA) (n : Nat)  (m : Nat) (w3a : Option Pos) (w3l : Nat) (w3c : Cap) (w4 : Option Pos) (S : AS) : r32_l1_1_1_0_1_0 call n  (m + 1) w3a w3l w3c w4 S = b32_l1_1_1_0_1_0 call n (r32_l1_1_1_0_1_0 call n  m) w3a w3l w3c w4 S := by kernel_rfl
theorem a32_entry (call : CallA) (n : Nat) (x0 : Option Pos) (S : AS) : evC E call n 32 (E.at 32 []) 0 (enumT 0 [(.ptr x0)]) S (retK E (E.fn 32)) = b32_entry call n (r32_l1_1_1_0_1_0 call n  n) x0 S := by kernel_rfl
def J32_l1_1_1_0_1_0 (call : CallA) (n : Nat)  (m : Nat) : Option Pos → Nat → Cap → Option Pos → AS → Option (AV × AS) := Nat.rec (motive := fun _ => Option Pos → Nat → Cap → Option Pos → AS → Option (AV × AS)) (fun _ _ _ _ _ => none) (fun _ ih w3a w3l w3c w4 S => b32_l1_1_1_0_1_0 call n ih w3a w3l w3c w4 S) m
theorem J32_l1_1_1_0_1_0_succ (call : CallA) (n : Nat)  (m : Nat) (w3a : Option Pos) (w3l : Nat) (w3c : Cap) (w4 : Option Pos) (S : AS) : J32_l1_1_1_0_1_0 call n  (m + 1) w3a w3l w3c w4 S = b32_l1_1_1_0_1_0 call n (J32_l1_1_1_0_1_0 call n  m) w3a w3l w3c w4 S := rfl
theorem h32_l1_1_1_0_1_0 (call : CallA) (n : Nat)  (m : Nat) : r32_l1_1_1_0_1_0 call n  m = J32_l1_1_1_0_1_0 call n  m := by
  induction m with
  | zero => rfl
  | succ m ih =>
    funext w3a w3l w3c w4 S
    rw [J32_l1_1_1_0_1_0_succ, a32_l1_1_1_0_1_0, ih]
def J32 (call : CallA) (n : Nat) (x0 : Option Pos) (S : AS) : Option (AV × AS) := b32_entry call n (J32_l1_1_1_0_1_0 call n  n) x0 S
theorem run32 (o : Orc) (n : Nat) (args : List AV) (S : AS) (ho : o 32 args = none) : evF E o (n + 1) (.fn 32) args S = evC E (evF E o n) n 32 (E.at 32 []) 0 (enumT 0 args) S (retK E (E.fn 32)) := by
  rw [evF, ho]; kernel_rfl
theorem J32_eq (call : CallA) (n : Nat) (x0 : Option Pos) (S : AS) : evC E call n 32 (E.at 32 []) 0 (enumT 0 [(.ptr x0)]) S (retK E (E.fn 32)) = J32 call n x0 S := by
  rw [J32, a32_entry, h32_l1_1_1_0_1_0 call n  n]
theorem F32 {o : Orc} (n : Nat) (x0 : Option Pos) (S : AS) (ho : ∀ args, o 32 args = none) : evF E o (n + 1) (.fn 32) [(.ptr x0)] S = J32 (evF E o n) n x0 S := (run32 o n [(.ptr x0)] S (ho _)).trans (J32_eq _ _ x0 S)
def b33_l1_1_1_0_1_0 (call : CallA) (n : Nat) (l1_1_1_0_1_0 : Option Pos → Nat → Cap → Int → Option Pos → Nat → Cap → Option Pos → Nat → Cap → Int → Int → AS → Option (AV × AS)) (j1_1_1_1 : Option Pos → Nat → Cap → AS → Option (AV × AS)) (w2a : Option Pos) (w2l : Nat) (w2c : Cap) (w3 : Int) (w4a : Option Pos) (w4l : Nat) (w4c : Cap) (w19a : Option Pos) (w19l : Nat) (w19c : Cap) (w20 : Int) (w21 : Int) (S : AS) : Option (AV × AS) :=
cond (decide (w21 < w20)) (
ixSl 2 w19a w19l w21 fun p3 =>
S.ldn p3.1 p3.2 2 fun g4 =>
newA S (.cells [(.int .i64 0), (.sl none 0 (.ex 0))]) fun b5 S6 =>
ifO (g4.length = 2) <|
S6.stn (.rw b5) 0 g4 fun S7 =>
ldI .i64 S7 (.rw b5) 0 fun v8 =>
cond (decide (v8 < 0)) (
some (.tup [(.sl none 0 (.ex 0)), (.int .i64 82)], S7)) (
ldI .i64 S7 (.rw b5) 0 fun v9 =>
cond (decide (v9 ≥ 2147483648)) (
some (.tup [(.sl none 0 (.ex 0)), (.int .i64 82)], S7)) (
ldL S7 (.rw b5) 1 fun v10a v10l v10c =>
cond (((v10l : Nat) : Int) != 384) (
some (.tup [(.sl none 0 (.ex 0)), (.int .i64 82)], S7)) (
ldI .i64 S7 (.rw b5) 0 fun v11 =>
callL call 58 [(.sl w4a w4l w4c), (.int .u64 (IntKind.wrap .u64 v11)), (.int .i64 4)] S7 fun v13a v13l v13c S12 =>
ldL S12 (.rw b5) 1 fun v14a v14l v14c =>
ldL S7 (.rw b5) 1 fun v15a v15l v15c =>
cond (AV.beq (.sl v15a v15l v15c) (.sl v14a v14l v14c)) (
appendA 1 1 S12 v13a v13l v13c v14l (firstA S12 1 v14l (.sl v14a v14l v14c)) fun v16a v16l v16c S17 =>
l1_1_1_0_1_0 w2a w2l w2c w3 v16a v16l v16c w19a w19l w19c w20 (IntKind.wrap .i64 (w21 + 1)) S17) none)))) (
j1_1_1_1 w4a w4l w4c S)

def b33_j1_1_1_1 (call : CallA) (n : Nat)  (w4a : Option Pos) (w4l : Nat) (w4c : Cap) (S : AS) : Option (AV × AS) :=
some (.tup [(.sl w4a w4l w4c), (.int .i64 0)], S)

def b33_entry (call : CallA) (n : Nat) (l1_1_1_0_1_0 : Option Pos → Nat → Cap → Int → Option Pos → Nat → Cap → Option Pos → Nat → Cap → Int → Int → AS → Option (AV × AS)) (x0a : Option Pos) (x0l : Nat) (x0c : Cap) (S : AS) : Option (AV × AS) :=
cond (((x0l : Nat) : Int) == 0) (
some (.tup [(.sl none 0 (.ex 0)), (.int .i64 82)], S)) (
cond (decide (((x0l : Nat) : Int) > 64)) (
some (.tup [(.sl none 0 (.ex 0)), (.int .i64 82)], S)) (
callL call 58 [(.sl none 0 (.ex 0)), (.int .u64 (IntKind.wrap .u64 ((x0l : Nat) : Int))), (.int .i64 4)] S fun v2a v2l v2c S1 =>
l1_1_1_0_1_0 none 0 (.ex 0) 0 v2a v2l v2c x0a x0l x0c ((x0l : Nat) : Int) 0 S1))

def r33_l1_1_1_0_1_0 (call : CallA) (n : Nat)  (m : Nat) (w2a : Option Pos) (w2l : Nat) (w2c : Cap) (w3 : Int) (w4a : Option Pos) (w4l : Nat) (w4c : Cap) (w19a : Option Pos) (w19l : Nat) (w19c : Cap) (w20 : Int) (w21 : Int) (S : AS) : Option (AV × AS) := loopN (evC E call n 33 (E.at 33 [1, 1, 1, 0, 1, 0, 0]) 0) [2, 3, 4, 19, 20, 21] m [(2, (.sl w2a w2l w2c)), (3, (.int .i64 w3)), (4, (.sl w4a w4l w4c)), (19, (.sl w19a w19l w19c)), (20, (.int .i64 w20)), (21, (.int .i64 w21))] S (kBlk 0 (kSeq E call n 33 (E.at 33 [1, 1, 1, 1]) 0 (retK E (E.fn 33))))
def r33_j1_1_1_1 (call : CallA) (n : Nat)  (w4a : Option Pos) (w4l : Nat) (w4c : Cap) (S : AS) : Option (AV × AS) := evC E call n 33 (E.at 33 [1, 1, 1, 1]) 0 [(4, (.sl w4a w4l w4c))] S (retK E (E.fn 33))
theorem a33_l1_1_1_0_1_0 (call : CallA) (n : Nat)  (m : Nat) (w2a : Option Pos) (w2l : Nat) (w2c : Cap) (w3 : Int) (w4a : Option Pos) (w4l : Nat) (w4c : Cap) (w19a : Option Pos) (w19l : Nat) (w19c : Cap) (w20 : Int) (w21 : Int) (S : AS) : r33_l1_1_1_0_1_0 call n  (m + 1) w2a w2l w2c w3 w4a w4l w4c w19a w19l w19c w20 w21 S = b33_l1_1_1_0_1_0 call n (r33_l1_1_1_0_1_0 call n  m) (r33_j1_1_1_1 call n ) w2a w2l w2c w3 w4a w4l w4c w19a w19l w19c w20 w21 S := by kernel_rfl
theorem a33_j1_1_1_1 (call : CallA) (n : Nat)  (w4a : Option Pos) (w4l : Nat) (w4c : Cap) (S : AS) : r33_j1_1_1_1 call n  w4a w4l w4c S = b33_j1_1_1_1 call n  w4a w4l w4c S := by kernel_rfl
theorem a33_entry (call : CallA) (n : Nat) (x0a : Option Pos) (x0l : Nat) (x0c : Cap) (S : AS) : evC E call n 33 (E.at 33 []) 0 (enumT 0 [(.sl x0a x0l x0c)]) S (retK E (E.fn 33)) = b33_entry call n (r33_l1_1_1_0_1_0 call n  n) x0a x0l x0c S := by kernel_rfl
def J33_j1_1_1_1 (call : CallA) (n : Nat)  (w4a : Option Pos) (w4l : Nat) (w4c : Cap) (S : AS) : Option (AV × AS) := b33_j1_1_1_1 call n  w4a w4l w4c S
theorem h33_j1_1_1_1 (call : CallA) (n : Nat)  : r33_j1_1_1_1 call n  = J33_j1_1_1_1 call n  := by
  funext w4a w4l w4c S
  rw [J33_j1_1_1_1, a33_j1_1_1_1]
def J33_l1_1_1_0_1_0 (call : CallA) (n : Nat)  (m : Nat) : Option Pos → Nat → Cap → Int → Option Pos → Nat → Cap → Option Pos → Nat → Cap → Int → Int → AS → Option (AV × AS) := Nat.rec (motive := fun _ => Option Pos → Nat → Cap → Int → Option Pos → Nat → Cap → Option Pos → Nat → Cap → Int → Int → AS → Option (AV × AS)) (fun _ _ _ _ _ _ _ _ _ _ _ _ _ => none) (fun _ ih w2a w2l w2c w3 w4a w4l w4c w19a w19l w19c w20 w21 S => b33_l1_1_1_0_1_0 call n ih (J33_j1_1_1_1 call n ) w2a w2l w2c w3 w4a w4l w4c w19a w19l w19c w20 w21 S) m
theorem J33_l1_1_1_0_1_0_succ (call : CallA) (n : Nat)  (m : Nat) (w2a : Option Pos) (w2l : Nat) (w2c : Cap) (w3 : Int) (w4a : Option Pos) (w4l : Nat) (w4c : Cap) (w19a : Option Pos) (w19l : Nat) (w19c : Cap) (w20 : Int) (w21 : Int) (S : AS) : J33_l1_1_1_0_1_0 call n  (m + 1) w2a w2l w2c w3 w4a w4l w4c w19a w19l w19c w20 w21 S = b33_l1_1_1_0_1_0 call n (J33_l1_1_1_0_1_0 call n  m) (J33_j1_1_1_1 call n ) w2a w2l w2c w3 w4a w4l w4c w19a w19l w19c w20 w21 S := rfl
theorem h33_l1_1_1_0_1_0 (call : CallA) (n : Nat)  (m : Nat) : r33_l1_1_1_0_1_0 call n  m = J33_l1_1_1_0_1_0 call n  m := by
  induction m with
  | zero => rfl
  | succ m ih =>
    funext w2a w2l w2c w3 w4a w4l w4c w19a w19l w19c w20 w21 S
    rw [J33_l1_1_1_0_1_0_succ, a33_l1_1_1_0_1_0, h33_j1_1_1_1 call n , ih]
def J33 (call : CallA) (n : Nat) (x0a : Option Pos) (x0l : Nat) (x0c : Cap) (S : AS) : Option (AV × AS) := b33_entry call n (J33_l1_1_1_0_1_0 call n  n) x0a x0l x0c S
theorem run33 (o : Orc) (n : Nat) (args : List AV) (S : AS) (ho : o 33 args = none) : evF E o (n + 1) (.fn 33) args S = evC E (evF E o n) n 33 (E.at 33 []) 0 (enumT 0 args) S (retK E (E.fn 33)) := by
  rw [evF, ho]; kernel_rfl
theorem J33_eq (call : CallA) (n : Nat) (x0a : Option Pos) (x0l : Nat) (x0c : Cap) (S : AS) : evC E call n 33 (E.at 33 []) 0 (enumT 0 [(.sl x0a x0l x0c)]) S (retK E (E.fn 33)) = J33 call n x0a x0l x0c S := by
  rw [J33, a33_entry, h33_l1_1_1_0_1_0 call n  n]
theorem F33 {o : Orc} (n : Nat) (x0a : Option Pos) (x0l : Nat) (x0c : Cap) (S : AS) (ho : ∀ args, o 33 args = none) : evF E o (n + 1) (.fn 33) [(.sl x0a x0l x0c)] S = J33 (evF E o n) n x0a x0l x0c S := (run33 o n [(.sl x0a x0l x0c)] S (ho _)).trans (J33_eq _ _ x0a x0l x0c S)
def b34_entry (call : CallA) (n : Nat)  (x0 : Int) (S : AS) : Option (AV × AS) :=
cond (decide (x0 < 1)) (
some ((.int .i64 0), S)) (
cond (decide (x0 > 64)) (
some ((.int .i64 0), S)) (
some ((.int .i64 (IntKind.wrap .i64 (Int.tdiv (IntKind.wrap .i64 ((IntKind.wrap .i64 ((IntKind.wrap .i64 (4 + (IntKind.wrap .i64 (x0 * 388)))) + 336)) - 1)) 336))), S)))

theorem a34_entry (call : CallA) (n : Nat) (x0 : Int) (S : AS) : evC E call n 34 (E.at 34 []) 0 (enumT 0 [(.int .i64 x0)]) S (retK E (E.fn 34)) = b34_entry call n  x0 S := by kernel_rfl
def J34 (call : CallA) (n : Nat) (x0 : Int) (S : AS) : Option (AV × AS) := b34_entry call n  x0 S
theorem run34 (o : Orc) (n : Nat) (args : List AV) (S : AS) (ho : o 34 args = none) : evF E o (n + 1) (.fn 34) args S = evC E (evF E o n) n 34 (E.at 34 []) 0 (enumT 0 args) S (retK E (E.fn 34)) := by
  rw [evF, ho]; kernel_rfl
theorem J34_eq (call : CallA) (n : Nat) (x0 : Int) (S : AS) : evC E call n 34 (E.at 34 []) 0 (enumT 0 [(.int .i64 x0)]) S (retK E (E.fn 34)) = J34 call n x0 S := by
  rw [J34, a34_entry]
theorem F34 {o : Orc} (n : Nat) (x0 : Int) (S : AS) (ho : ∀ args, o 34 args = none) : evF E o (n + 1) (.fn 34) [(.int .i64 x0)] S = J34 (evF E o n) n x0 S := (run34 o n [(.int .i64 x0)] S (ho _)).trans (J34_eq _ _ x0 S)
def b35_l1_1_0_1_0 (call : CallA) (n : Nat) (l1_1_0_1_0 : Int → Option Pos → Nat → Cap → Int → Int → AS → Option (AV × AS)) (w3 : Int) (w14a : Option Pos) (w14l : Nat) (w14c : Cap) (w15 : Int) (w16 : Int) (S : AS) : Option (AV × AS) :=
cond (decide (w16 < w15)) (
ixSl 3 w14a w14l w16 fun p5 =>
S.ldn p5.1 p5.2 3 fun g6 =>
newA S (.cells [(.int .i64 0), (.int .u64 0), (.int .u64 0)]) fun b7 S8 =>
ifO (g6.length = 3) <|
S8.stn (.rw b7) 0 g6 fun S9 =>
ldI .i64 S9 (.rw b7) 0 fun v10 =>
l1_1_0_1_0 (IntKind.wrap .u64 (w3 + (IntKind.wrap .u64 v10))) w14a w14l w14c w15 (IntKind.wrap .i64 (w16 + 1)) S9) (
some ((.int .u64 w3), S))

def b35_entry (call : CallA) (n : Nat) (l1_1_0_1_0 : Int → Option Pos → Nat → Cap → Int → Int → AS → Option (AV × AS)) (x0 : Option Pos) (S : AS) : Option (AV × AS) :=
gO x0 fun p1 =>
ldI .u64 S p1.1 (p1.2 + 3 + 2) fun v2 =>
gO x0 fun p3 =>
ldL S p3.1 (p3.2 + 9) fun v4a v4l v4c =>
l1_1_0_1_0 v2 v4a v4l v4c ((v4l : Nat) : Int) 0 S

def r35_l1_1_0_1_0 (call : CallA) (n : Nat)  (m : Nat) (w3 : Int) (w14a : Option Pos) (w14l : Nat) (w14c : Cap) (w15 : Int) (w16 : Int) (S : AS) : Option (AV × AS) := loopN (evC E call n 35 (E.at 35 [1, 1, 0, 1, 0, 0]) 0) [3, 14, 15, 16] m [(3, (.int .u64 w3)), (14, (.sl w14a w14l w14c)), (15, (.int .i64 w15)), (16, (.int .i64 w16))] S (kBlk 0 (kSeq E call n 35 (E.at 35 [1, 1, 1]) 0 (retK E (E.fn 35))))
theorem a35_l1_1_0_1_0 (call : CallA) (n : Nat)  (m : Nat) (w3 : Int) (w14a : Option Pos) (w14l : Nat) (w14c : Cap) (w15 : Int) (w16 : Int) (S : AS) : r35_l1_1_0_1_0 call n  (m + 1) w3 w14a w14l w14c w15 w16 S = b35_l1_1_0_1_0 call n (r35_l1_1_0_1_0 call n  m) w3 w14a w14l w14c w15 w16 S := by kernel_rfl
theorem a35_entry (call : CallA) (n : Nat) (x0 : Option Pos) (S : AS) : evC E call n 35 (E.at 35 []) 0 (enumT 0 [(.ptr x0)]) S (retK E (E.fn 35)) = b35_entry call n (r35_l1_1_0_1_0 call n  n) x0 S := by kernel_rfl
def J35_l1_1_0_1_0 (call : CallA) (n : Nat)  (m : Nat) : Int → Option Pos → Nat → Cap → Int → Int → AS → Option (AV × AS) := Nat.rec (motive := fun _ => Int → Option Pos → Nat → Cap → Int → Int → AS → Option (AV × AS)) (fun _ _ _ _ _ _ _ => none) (fun _ ih w3 w14a w14l w14c w15 w16 S => b35_l1_1_0_1_0 call n ih w3 w14a w14l w14c w15 w16 S) m
theorem J35_l1_1_0_1_0_succ (call : CallA) (n : Nat)  (m : Nat) (w3 : Int) (w14a : Option Pos) (w14l : Nat) (w14c : Cap) (w15 : Int) (w16 : Int) (S : AS) : J35_l1_1_0_1_0 call n  (m + 1) w3 w14a w14l w14c w15 w16 S = b35_l1_1_0_1_0 call n (J35_l1_1_0_1_0 call n  m) w3 w14a w14l w14c w15 w16 S := rfl
theorem h35_l1_1_0_1_0 (call : CallA) (n : Nat)  (m : Nat) : r35_l1_1_0_1_0 call n  m = J35_l1_1_0_1_0 call n  m := by
  induction m with
  | zero => rfl
  | succ m ih =>
    funext w3 w14a w14l w14c w15 w16 S
    rw [J35_l1_1_0_1_0_succ, a35_l1_1_0_1_0, ih]
def J35 (call : CallA) (n : Nat) (x0 : Option Pos) (S : AS) : Option (AV × AS) := b35_entry call n (J35_l1_1_0_1_0 call n  n) x0 S
theorem run35 (o : Orc) (n : Nat) (args : List AV) (S : AS) (ho : o 35 args = none) : evF E o (n + 1) (.fn 35) args S = evC E (evF E o n) n 35 (E.at 35 []) 0 (enumT 0 args) S (retK E (E.fn 35)) := by
  rw [evF, ho]; kernel_rfl
theorem J35_eq (call : CallA) (n : Nat) (x0 : Option Pos) (S : AS) : evC E call n 35 (E.at 35 []) 0 (enumT 0 [(.ptr x0)]) S (retK E (E.fn 35)) = J35 call n x0 S := by
  rw [J35, a35_entry, h35_l1_1_0_1_0 call n  n]
theorem F35 {o : Orc} (n : Nat) (x0 : Option Pos) (S : AS) (ho : ∀ args, o 35 args = none) : evF E o (n + 1) (.fn 35) [(.ptr x0)] S = J35 (evF E o n) n x0 S := (run35 o n [(.ptr x0)] S (ho _)).trans (J35_eq _ _ x0 S)
def b36_l1_0_1_0 (call : CallA) (n : Nat) (l1_0_1_0 : Bool → Option Pos → Nat → Cap → Int → Int → AS → Option (AV × AS)) (w2 : Bool) (w5a : Option Pos) (w5l : Nat) (w5c : Cap) (w6 : Int) (w7 : Int) (S : AS) : Option (AV × AS) :=
cond (decide (w7 < w6)) (
ixSl 1 w5a w5l w7 fun p1 =>
ldI .u64 S p1.1 p1.2 fun v2 =>
cond (decide (v2 > 4611686018427387904)) (
some ((.bool false), S)) (
l1_0_1_0 w2 w5a w5l w5c w6 (IntKind.wrap .i64 (w7 + 1)) S)) (
some ((.bool true), S))

def b36_entry (call : CallA) (n : Nat) (l1_0_1_0 : Bool → Option Pos → Nat → Cap → Int → Int → AS → Option (AV × AS)) (x0a : Option Pos) (x0l : Nat) (x0c : Cap) (S : AS) : Option (AV × AS) :=
l1_0_1_0 false x0a x0l x0c ((x0l : Nat) : Int) 0 S

def r36_l1_0_1_0 (call : CallA) (n : Nat)  (m : Nat) (w2 : Bool) (w5a : Option Pos) (w5l : Nat) (w5c : Cap) (w6 : Int) (w7 : Int) (S : AS) : Option (AV × AS) := loopN (evC E call n 36 (E.at 36 [1, 0, 1, 0, 0]) 0) [2, 5, 6, 7] m [(2, (.bool w2)), (5, (.sl w5a w5l w5c)), (6, (.int .i64 w6)), (7, (.int .i64 w7))] S (kBlk 0 (kSeq E call n 36 (E.at 36 [1, 1]) 0 (retK E (E.fn 36))))
theorem a36_l1_0_1_0 (call : CallA) (n : Nat)  (m : Nat) (w2 : Bool) (w5a : Option Pos) (w5l : Nat) (w5c : Cap) (w6 : Int) (w7 : Int) (S : AS) : r36_l1_0_1_0 call n  (m + 1) w2 w5a w5l w5c w6 w7 S = b36_l1_0_1_0 call n (r36_l1_0_1_0 call n  m) w2 w5a w5l w5c w6 w7 S := by kernel_rfl
theorem a36_entry (call : CallA) (n : Nat) (x0a : Option Pos) (x0l : Nat) (x0c : Cap) (S : AS) : evC E call n 36 (E.at 36 []) 0 (enumT 0 [(.sl x0a x0l x0c)]) S (retK E (E.fn 36)) = b36_entry call n (r36_l1_0_1_0 call n  n) x0a x0l x0c S := by kernel_rfl
def J36_l1_0_1_0 (call : CallA) (n : Nat)  (m : Nat) : Bool → Option Pos → Nat → Cap → Int → Int → AS → Option (AV × AS) := Nat.rec (motive := fun _ => Bool → Option Pos → Nat → Cap → Int → Int → AS → Option (AV × AS)) (fun _ _ _ _ _ _ _ => none) (fun _ ih w2 w5a w5l w5c w6 w7 S => b36_l1_0_1_0 call n ih w2 w5a w5l w5c w6 w7 S) m
theorem J36_l1_0_1_0_succ (call : CallA) (n : Nat)  (m : Nat) (w2 : Bool) (w5a : Option Pos) (w5l : Nat) (w5c : Cap) (w6 : Int) (w7 : Int) (S : AS) : J36_l1_0_1_0 call n  (m + 1) w2 w5a w5l w5c w6 w7 S = b36_l1_0_1_0 call n (J36_l1_0_1_0 call n  m) w2 w5a w5l w5c w6 w7 S := rfl
theorem h36_l1_0_1_0 (call : CallA) (n : Nat)  (m : Nat) : r36_l1_0_1_0 call n  m = J36_l1_0_1_0 call n  m := by
  induction m with
  | zero => rfl
  | succ m ih =>
    funext w2 w5a w5l w5c w6 w7 S
    rw [J36_l1_0_1_0_succ, a36_l1_0_1_0, ih]
def J36 (call : CallA) (n : Nat) (x0a : Option Pos) (x0l : Nat) (x0c : Cap) (S : AS) : Option (AV × AS) := b36_entry call n (J36_l1_0_1_0 call n  n) x0a x0l x0c S
theorem run36 (o : Orc) (n : Nat) (args : List AV) (S : AS) (ho : o 36 args = none) : evF E o (n + 1) (.fn 36) args S = evC E (evF E o n) n 36 (E.at 36 []) 0 (enumT 0 args) S (retK E (E.fn 36)) := by
  rw [evF, ho]; kernel_rfl
theorem J36_eq (call : CallA) (n : Nat) (x0a : Option Pos) (x0l : Nat) (x0c : Cap) (S : AS) : evC E call n 36 (E.at 36 []) 0 (enumT 0 [(.sl x0a x0l x0c)]) S (retK E (E.fn 36)) = J36 call n x0a x0l x0c S := by
  rw [J36, a36_entry, h36_l1_0_1_0 call n  n]
theorem F36 {o : Orc} (n : Nat) (x0a : Option Pos) (x0l : Nat) (x0c : Cap) (S : AS) (ho : ∀ args, o 36 args = none) : evF E o (n + 1) (.fn 36) [(.sl x0a x0l x0c)] S = J36 (evF E o n) n x0a x0l x0c S := (run36 o n [(.sl x0a x0l x0c)] S (ho _)).trans (J36_eq _ _ x0a x0l x0c S)
end
end Go.Na
