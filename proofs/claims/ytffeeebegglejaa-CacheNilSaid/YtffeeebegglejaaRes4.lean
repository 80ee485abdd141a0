/- Plain readings of the functions, and that they are what the evaluator does: by program. -/
import Derived.Test.YtffeeebegglejaaGrRes
import Derived.Test.YtffeeebegglejaaENV
import Derived.KernelRfl
set_option maxRecDepth 100000
set_option linter.unusedVariables false
namespace Go.Na
open Go.Gr
noncomputable section
def b65_entry (call : CallA) (n : Nat)  (x0 : Option Pos) (x1 : Option Pos) (S : AS) : Option (AV × AS) :=
drawA S 21 fun b1 S2 =>
gO x0 fun p3 =>
ldI .u64 S2 p3.1 (p3.2 + 5) fun v4 =>
gO x1 fun p5 =>
ldI .u64 S2 p5.1 (p5.2 + 5) fun v6 =>
callI .i64 call 67 [(.int .u64 v4), (.int .u64 v6)] S2 fun v8 S7 =>
gO x0 fun p9 =>
ldI .i64 S7 p9.1 (p9.2 + 2) fun v10 =>
ldI .i64 S2 p9.1 (p9.2 + 2) fun v11 =>
cond (AV.beq (.int .i64 v11) (.int .i64 v10)) (
gO x1 fun p12 =>
ldI .i64 S7 p12.1 (p12.2 + 2) fun v13 =>
ldI .i64 S2 p12.1 (p12.2 + 2) fun v14 =>
cond (AV.beq (.int .i64 v14) (.int .i64 v13)) (
callI .i64 call 68 [(.int .i64 v10), (.int .i64 v13)] S7 fun v16 S15 =>
layA S15 (b1 + 18) (.cells [(.int .i64 v8), (.int .i64 v16)]) fun S17 =>
callI .i64 call 66 [(.sl (some (.rw (b1 + 18), 0)) 2 (.ex 2))] S17 fun v19 S18 =>
some ((.int .i64 v19), S18)) none) none

theorem a65_entry (call : CallA) (n : Nat) (x0 : Option Pos) (x1 : Option Pos) (S : AS) : evC E call n 65 (E.at 65 []) 0 (enumT 0 [(.ptr x0), (.ptr x1)]) S (retK E (E.fn 65)) = b65_entry call n  x0 x1 S := by kernel_rfl
def J65 (call : CallA) (n : Nat) (x0 : Option Pos) (x1 : Option Pos) (S : AS) : Option (AV × AS) := b65_entry call n  x0 x1 S
theorem run65 (o : Orc) (n : Nat) (args : List AV) (S : AS) (ho : o 65 args = none) : evF E o (n + 1) (.fn 65) args S = evC E (evF E o n) n 65 (E.at 65 []) 0 (enumT 0 args) S (retK E (E.fn 65)) := by
  rw [evF, ho]; kernel_rfl
theorem J65_eq (call : CallA) (n : Nat) (x0 : Option Pos) (x1 : Option Pos) (S : AS) : evC E call n 65 (E.at 65 []) 0 (enumT 0 [(.ptr x0), (.ptr x1)]) S (retK E (E.fn 65)) = J65 call n x0 x1 S := by
  rw [J65, a65_entry]
theorem F65 {o : Orc} (n : Nat) (x0 : Option Pos) (x1 : Option Pos) (S : AS) (ho : ∀ args, o 65 args = none) : evF E o (n + 1) (.fn 65) [(.ptr x0), (.ptr x1)] S = J65 (evF E o n) n x0 x1 S := (run65 o n [(.ptr x0), (.ptr x1)] S (ho _)).trans (J65_eq _ _ x0 x1 S)
def b66_l1_1_0_1_0 (call : CallA) (n : Nat) (l1_1_0_1_0 : Int → Int → Option Pos → Nat → Cap → Int → Int → AS → Option (AV × AS)) (w2 : Int) (w3 : Int) (w6a : Option Pos) (w6l : Nat) (w6c : Cap) (w7 : Int) (w8 : Int) (S : AS) : Option (AV × AS) :=
cond (decide (w8 < w7)) (
ixSl 1 w6a w6l w8 fun p1 =>
ldI .i64 S p1.1 p1.2 fun v2 =>
cond (v2 != w3) (
some ((.int .i64 v2), S)) (
l1_1_0_1_0 w2 w3 w6a w6l w6c w7 (IntKind.wrap .i64 (w8 + 1)) S)) (
some ((.int .i64 w3), S))

def b66_entry (call : CallA) (n : Nat) (l1_1_0_1_0 : Int → Int → Option Pos → Nat → Cap → Int → Int → AS → Option (AV × AS)) (x0a : Option Pos) (x0l : Nat) (x0c : Cap) (S : AS) : Option (AV × AS) :=
l1_1_0_1_0 0 0 x0a x0l x0c ((x0l : Nat) : Int) 0 S

def r66_l1_1_0_1_0 (call : CallA) (n : Nat)  (m : Nat) (w2 : Int) (w3 : Int) (w6a : Option Pos) (w6l : Nat) (w6c : Cap) (w7 : Int) (w8 : Int) (S : AS) : Option (AV × AS) := loopN (evC E call n 66 (E.at 66 [1, 1, 0, 1, 0, 0]) 0) [2, 3, 6, 7, 8] m [(2, (.int .i64 w2)), (3, (.int .i64 w3)), (6, (.sl w6a w6l w6c)), (7, (.int .i64 w7)), (8, (.int .i64 w8))] S (kBlk 0 (kSeq E call n 66 (E.at 66 [1, 1, 1]) 0 (retK E (E.fn 66))))
theorem a66_l1_1_0_1_0 (call : CallA) (n : Nat)  (m : Nat) (w2 : Int) (w3 : Int) (w6a : Option Pos) (w6l : Nat) (w6c : Cap) (w7 : Int) (w8 : Int) (S : AS) : r66_l1_1_0_1_0 call n  (m + 1) w2 w3 w6a w6l w6c w7 w8 S = b66_l1_1_0_1_0 call n (r66_l1_1_0_1_0 call n  m) w2 w3 w6a w6l w6c w7 w8 S := by kernel_rfl
theorem a66_entry (call : CallA) (n : Nat) (x0a : Option Pos) (x0l : Nat) (x0c : Cap) (S : AS) : evC E call n 66 (E.at 66 []) 0 (enumT 0 [(.sl x0a x0l x0c)]) S (retK E (E.fn 66)) = b66_entry call n (r66_l1_1_0_1_0 call n  n) x0a x0l x0c S := by kernel_rfl
def J66_l1_1_0_1_0 (call : CallA) (n : Nat)  (m : Nat) : Int → Int → Option Pos → Nat → Cap → Int → Int → AS → Option (AV × AS) := Nat.rec (motive := fun _ => Int → Int → Option Pos → Nat → Cap → Int → Int → AS → Option (AV × AS)) (fun _ _ _ _ _ _ _ _ => none) (fun _ ih w2 w3 w6a w6l w6c w7 w8 S => b66_l1_1_0_1_0 call n ih w2 w3 w6a w6l w6c w7 w8 S) m
theorem J66_l1_1_0_1_0_succ (call : CallA) (n : Nat)  (m : Nat) (w2 : Int) (w3 : Int) (w6a : Option Pos) (w6l : Nat) (w6c : Cap) (w7 : Int) (w8 : Int) (S : AS) : J66_l1_1_0_1_0 call n  (m + 1) w2 w3 w6a w6l w6c w7 w8 S = b66_l1_1_0_1_0 call n (J66_l1_1_0_1_0 call n  m) w2 w3 w6a w6l w6c w7 w8 S := rfl
theorem h66_l1_1_0_1_0 (call : CallA) (n : Nat)  (m : Nat) : r66_l1_1_0_1_0 call n  m = J66_l1_1_0_1_0 call n  m := by
  induction m with
  | zero => rfl
  | succ m ih =>
    funext w2 w3 w6a w6l w6c w7 w8 S
    rw [J66_l1_1_0_1_0_succ, a66_l1_1_0_1_0, ih]
def J66 (call : CallA) (n : Nat) (x0a : Option Pos) (x0l : Nat) (x0c : Cap) (S : AS) : Option (AV × AS) := b66_entry call n (J66_l1_1_0_1_0 call n  n) x0a x0l x0c S
theorem run66 (o : Orc) (n : Nat) (args : List AV) (S : AS) (ho : o 66 args = none) : evF E o (n + 1) (.fn 66) args S = evC E (evF E o n) n 66 (E.at 66 []) 0 (enumT 0 args) S (retK E (E.fn 66)) := by
  rw [evF, ho]; kernel_rfl
theorem J66_eq (call : CallA) (n : Nat) (x0a : Option Pos) (x0l : Nat) (x0c : Cap) (S : AS) : evC E call n 66 (E.at 66 []) 0 (enumT 0 [(.sl x0a x0l x0c)]) S (retK E (E.fn 66)) = J66 call n x0a x0l x0c S := by
  rw [J66, a66_entry, h66_l1_1_0_1_0 call n  n]
theorem F66 {o : Orc} (n : Nat) (x0a : Option Pos) (x0l : Nat) (x0c : Cap) (S : AS) (ho : ∀ args, o 66 args = none) : evF E o (n + 1) (.fn 66) [(.sl x0a x0l x0c)] S = J66 (evF E o n) n x0a x0l x0c S := (run66 o n [(.sl x0a x0l x0c)] S (ho _)).trans (J66_eq _ _ x0a x0l x0c S)
def b67_entry (call : CallA) (n : Nat)  (x0 : Int) (x1 : Int) (S : AS) : Option (AV × AS) :=
callB call 76 [(.int .u64 x0)] S fun v2 S1 =>
callB call 76 [(.int .u64 x1)] S1 fun v4 S3 =>
cond v2 (
cond v4 (
some ((.int .i64 0), S3)) (
some ((.int .i64 (-1)), S3))) (
cond v4 (
some ((.int .i64 1), S3)) (
cond (decide (x0 < x1)) (
some ((.int .i64 (-1)), S3)) (
cond (decide (x0 > x1)) (
some ((.int .i64 1), S3)) (
some ((.int .i64 0), S3)))))

theorem a67_entry (call : CallA) (n : Nat) (x0 : Int) (x1 : Int) (S : AS) : evC E call n 67 (E.at 67 []) 0 (enumT 0 [(.int .u64 x0), (.int .u64 x1)]) S (retK E (E.fn 67)) = b67_entry call n  x0 x1 S := by kernel_rfl
def J67 (call : CallA) (n : Nat) (x0 : Int) (x1 : Int) (S : AS) : Option (AV × AS) := b67_entry call n  x0 x1 S
theorem run67 (o : Orc) (n : Nat) (args : List AV) (S : AS) (ho : o 67 args = none) : evF E o (n + 1) (.fn 67) args S = evC E (evF E o n) n 67 (E.at 67 []) 0 (enumT 0 args) S (retK E (E.fn 67)) := by
  rw [evF, ho]; kernel_rfl
theorem J67_eq (call : CallA) (n : Nat) (x0 : Int) (x1 : Int) (S : AS) : evC E call n 67 (E.at 67 []) 0 (enumT 0 [(.int .u64 x0), (.int .u64 x1)]) S (retK E (E.fn 67)) = J67 call n x0 x1 S := by
  rw [J67, a67_entry]
theorem F67 {o : Orc} (n : Nat) (x0 : Int) (x1 : Int) (S : AS) (ho : ∀ args, o 67 args = none) : evF E o (n + 1) (.fn 67) [(.int .u64 x0), (.int .u64 x1)] S = J67 (evF E o n) n x0 x1 S := (run67 o n [(.int .u64 x0), (.int .u64 x1)] S (ho _)).trans (J67_eq _ _ x0 x1 S)
def b68_entry (call : CallA) (n : Nat)  (x0 : Int) (x1 : Int) (S : AS) : Option (AV × AS) :=
callB call 77 [(.int .i64 x0)] S fun v2 S1 =>
callB call 77 [(.int .i64 x1)] S1 fun v4 S3 =>
cond v2 (
cond v4 (
some ((.int .i64 0), S3)) (
some ((.int .i64 (-1)), S3))) (
cond v4 (
some ((.int .i64 1), S3)) (
cond (decide (x0 < x1)) (
some ((.int .i64 (-1)), S3)) (
cond (decide (x0 > x1)) (
some ((.int .i64 1), S3)) (
some ((.int .i64 0), S3)))))

theorem a68_entry (call : CallA) (n : Nat) (x0 : Int) (x1 : Int) (S : AS) : evC E call n 68 (E.at 68 []) 0 (enumT 0 [(.int .i64 x0), (.int .i64 x1)]) S (retK E (E.fn 68)) = b68_entry call n  x0 x1 S := by kernel_rfl
def J68 (call : CallA) (n : Nat) (x0 : Int) (x1 : Int) (S : AS) : Option (AV × AS) := b68_entry call n  x0 x1 S
theorem run68 (o : Orc) (n : Nat) (args : List AV) (S : AS) (ho : o 68 args = none) : evF E o (n + 1) (.fn 68) args S = evC E (evF E o n) n 68 (E.at 68 []) 0 (enumT 0 args) S (retK E (E.fn 68)) := by
  rw [evF, ho]; kernel_rfl
theorem J68_eq (call : CallA) (n : Nat) (x0 : Int) (x1 : Int) (S : AS) : evC E call n 68 (E.at 68 []) 0 (enumT 0 [(.int .i64 x0), (.int .i64 x1)]) S (retK E (E.fn 68)) = J68 call n x0 x1 S := by
  rw [J68, a68_entry]
theorem F68 {o : Orc} (n : Nat) (x0 : Int) (x1 : Int) (S : AS) (ho : ∀ args, o 68 args = none) : evF E o (n + 1) (.fn 68) [(.int .i64 x0), (.int .i64 x1)] S = J68 (evF E o n) n x0 x1 S := (run68 o n [(.int .i64 x0), (.int .i64 x1)] S (ho _)).trans (J68_eq _ _ x0 x1 S)
def b69_entry (call : CallA) (n : Nat)  (x0 : Option Pos) (x1 : Option Pos) (S : AS) : Option (AV × AS) :=
gO x1 fun p1 =>
ldI .i64 S p1.1 (p1.2 + 7) fun v2 =>
cond (v2 == 0) (
gO x1 fun p3 =>
ldB S p3.1 (p3.2 + 4) fun v4 =>
cond (!v4) (
some ((.bool true), S)) (
gO x1 fun p5 =>
ldI .u64 S p5.1 (p5.2 + 6) fun v6 =>
gO x0 fun p7 =>
ldI .u64 S p7.1 (p7.2 + 5) fun v8 =>
some ((.bool (decide (v6 ≤ v8))), S))) (
some ((.bool false), S))

theorem a69_entry (call : CallA) (n : Nat) (x0 : Option Pos) (x1 : Option Pos) (S : AS) : evC E call n 69 (E.at 69 []) 0 (enumT 0 [(.ptr x0), (.ptr x1)]) S (retK E (E.fn 69)) = b69_entry call n  x0 x1 S := by kernel_rfl
def J69 (call : CallA) (n : Nat) (x0 : Option Pos) (x1 : Option Pos) (S : AS) : Option (AV × AS) := b69_entry call n  x0 x1 S
theorem run69 (o : Orc) (n : Nat) (args : List AV) (S : AS) (ho : o 69 args = none) : evF E o (n + 1) (.fn 69) args S = evC E (evF E o n) n 69 (E.at 69 []) 0 (enumT 0 args) S (retK E (E.fn 69)) := by
  rw [evF, ho]; kernel_rfl
theorem J69_eq (call : CallA) (n : Nat) (x0 : Option Pos) (x1 : Option Pos) (S : AS) : evC E call n 69 (E.at 69 []) 0 (enumT 0 [(.ptr x0), (.ptr x1)]) S (retK E (E.fn 69)) = J69 call n x0 x1 S := by
  rw [J69, a69_entry]
theorem F69 {o : Orc} (n : Nat) (x0 : Option Pos) (x1 : Option Pos) (S : AS) (ho : ∀ args, o 69 args = none) : evF E o (n + 1) (.fn 69) [(.ptr x0), (.ptr x1)] S = J69 (evF E o n) n x0 x1 S := (run69 o n [(.ptr x0), (.ptr x1)] S (ho _)).trans (J69_eq _ _ x0 x1 S)
def b70_j1_1 (call : CallA) (n : Nat)  (w0 : Option Pos) (w1 : Option Pos) (S : AS) : Option (AV × AS) :=
gO w0 fun p13 =>
S.stn p13.1 (p13.2 + 4) [(.ptr w1)] fun S14 =>
some (.tup [], S14)

def b70_entry (call : CallA) (n : Nat) (j1_1 : Option Pos → Option Pos → AS → Option (AV × AS)) (x0 : Option Pos) (x1 : Option Pos) (S : AS) : Option (AV × AS) :=
gO x0 fun p1 =>
ldP S p1.1 (p1.2 + 4) fun v2 =>
gO x1 fun p3 =>
S.stn p3.1 p3.2 [(.ptr v2)] fun S4 =>
gO x0 fun p5 =>
ldP S4 p5.1 (p5.2 + 4) fun v6 =>
cond (!v6.isNone) (
gO x0 fun p7 =>
ldP S4 p7.1 (p7.2 + 4) fun v8 =>
gO v8 fun p9 =>
S4.stn p9.1 (p9.2 + 1) [(.ptr x1)] fun S10 =>
j1_1 x0 x1 S10) (
gO x0 fun p11 =>
S4.stn p11.1 (p11.2 + 3) [(.ptr x1)] fun S12 =>
j1_1 x0 x1 S12)

def r70_j1_1 (call : CallA) (n : Nat)  (w0 : Option Pos) (w1 : Option Pos) (S : AS) : Option (AV × AS) := evC E call n 70 (E.at 70 [1, 1]) 0 [(0, (.ptr w0)), (1, (.ptr w1))] S (retK E (E.fn 70))
theorem a70_j1_1 (call : CallA) (n : Nat)  (w0 : Option Pos) (w1 : Option Pos) (S : AS) : r70_j1_1 call n  w0 w1 S = b70_j1_1 call n  w0 w1 S := by kernel_rfl
theorem a70_entry (call : CallA) (n : Nat) (x0 : Option Pos) (x1 : Option Pos) (S : AS) : evC E call n 70 (E.at 70 []) 0 (enumT 0 [(.ptr x0), (.ptr x1)]) S (retK E (E.fn 70)) = b70_entry call n (r70_j1_1 call n ) x0 x1 S := by kernel_rfl
def J70_j1_1 (call : CallA) (n : Nat)  (w0 : Option Pos) (w1 : Option Pos) (S : AS) : Option (AV × AS) := b70_j1_1 call n  w0 w1 S
theorem h70_j1_1 (call : CallA) (n : Nat)  : r70_j1_1 call n  = J70_j1_1 call n  := by
  funext w0 w1 S
  rw [J70_j1_1, a70_j1_1]
def J70 (call : CallA) (n : Nat) (x0 : Option Pos) (x1 : Option Pos) (S : AS) : Option (AV × AS) := b70_entry call n (J70_j1_1 call n ) x0 x1 S
theorem run70 (o : Orc) (n : Nat) (args : List AV) (S : AS) (ho : o 70 args = none) : evF E o (n + 1) (.fn 70) args S = evC E (evF E o n) n 70 (E.at 70 []) 0 (enumT 0 args) S (retK E (E.fn 70)) := by
  rw [evF, ho]; kernel_rfl
theorem J70_eq (call : CallA) (n : Nat) (x0 : Option Pos) (x1 : Option Pos) (S : AS) : evC E call n 70 (E.at 70 []) 0 (enumT 0 [(.ptr x0), (.ptr x1)]) S (retK E (E.fn 70)) = J70 call n x0 x1 S := by
  rw [J70, a70_entry, h70_j1_1 call n ]
theorem F70 {o : Orc} (n : Nat) (x0 : Option Pos) (x1 : Option Pos) (S : AS) (ho : ∀ args, o 70 args = none) : evF E o (n + 1) (.fn 70) [(.ptr x0), (.ptr x1)] S = J70 (evF E o n) n x0 x1 S := (run70 o n [(.ptr x0), (.ptr x1)] S (ho _)).trans (J70_eq _ _ x0 x1 S)
def b71_l1_0 (call : CallA) (n : Nat) (l1_0 : Option Pos → Nat → Cap → Int → Int → AS → Option (AV × AS)) (w0a : Option Pos) (w0l : Nat) (w0c : Cap) (w1 : Int) (w4 : Int) (S : AS) : Option (AV × AS) :=
cond (decide (w4 ≥ 0)) (
ixSl 1 w0a w0l w4 fun p1 =>
S.stn p1.1 p1.2 [(.int .u8 (IntKind.wrap .u8 w1))] fun S2 =>
l1_0 w0a w0l w0c (shrI .u64 w1 8) (IntKind.wrap .i64 (w4 - 1)) S2) (
some (.tup [], S))

def b71_entry (call : CallA) (n : Nat) (l1_0 : Option Pos → Nat → Cap → Int → Int → AS → Option (AV × AS)) (x0a : Option Pos) (x0l : Nat) (x0c : Cap) (x1 : Int) (S : AS) : Option (AV × AS) :=
l1_0 x0a x0l x0c x1 (IntKind.wrap .i64 (((x0l : Nat) : Int) - 1)) S

def r71_l1_0 (call : CallA) (n : Nat)  (m : Nat) (w0a : Option Pos) (w0l : Nat) (w0c : Cap) (w1 : Int) (w4 : Int) (S : AS) : Option (AV × AS) := loopN (evC E call n 71 (E.at 71 [1, 0, 0]) 0) [0, 1, 4] m [(0, (.sl w0a w0l w0c)), (1, (.int .u64 w1)), (4, (.int .i64 w4))] S (kBlk 0 (retK E (E.fn 71)))
theorem a71_l1_0 (call : CallA) (n : Nat)  (m : Nat) (w0a : Option Pos) (w0l : Nat) (w0c : Cap) (w1 : Int) (w4 : Int) (S : AS) : r71_l1_0 call n  (m + 1) w0a w0l w0c w1 w4 S = b71_l1_0 call n (r71_l1_0 call n  m) w0a w0l w0c w1 w4 S := by kernel_rfl
theorem a71_entry (call : CallA) (n : Nat) (x0a : Option Pos) (x0l : Nat) (x0c : Cap) (x1 : Int) (S : AS) : evC E call n 71 (E.at 71 []) 0 (enumT 0 [(.sl x0a x0l x0c), (.int .u64 x1)]) S (retK E (E.fn 71)) = b71_entry call n (r71_l1_0 call n  n) x0a x0l x0c x1 S := by kernel_rfl
def J71_l1_0 (call : CallA) (n : Nat)  (m : Nat) : Option Pos → Nat → Cap → Int → Int → AS → Option (AV × AS) := Nat.rec (motive := fun _ => Option Pos → Nat → Cap → Int → Int → AS → Option (AV × AS)) (fun _ _ _ _ _ _ => none) (fun _ ih w0a w0l w0c w1 w4 S => b71_l1_0 call n ih w0a w0l w0c w1 w4 S) m
theorem J71_l1_0_succ (call : CallA) (n : Nat)  (m : Nat) (w0a : Option Pos) (w0l : Nat) (w0c : Cap) (w1 : Int) (w4 : Int) (S : AS) : J71_l1_0 call n  (m + 1) w0a w0l w0c w1 w4 S = b71_l1_0 call n (J71_l1_0 call n  m) w0a w0l w0c w1 w4 S := rfl
theorem h71_l1_0 (call : CallA) (n : Nat)  (m : Nat) : r71_l1_0 call n  m = J71_l1_0 call n  m := by
  induction m with
  | zero => rfl
  | succ m ih =>
    funext w0a w0l w0c w1 w4 S
    rw [J71_l1_0_succ, a71_l1_0, ih]
def J71 (call : CallA) (n : Nat) (x0a : Option Pos) (x0l : Nat) (x0c : Cap) (x1 : Int) (S : AS) : Option (AV × AS) := b71_entry call n (J71_l1_0 call n  n) x0a x0l x0c x1 S
theorem run71 (o : Orc) (n : Nat) (args : List AV) (S : AS) (ho : o 71 args = none) : evF E o (n + 1) (.fn 71) args S = evC E (evF E o n) n 71 (E.at 71 []) 0 (enumT 0 args) S (retK E (E.fn 71)) := by
  rw [evF, ho]; kernel_rfl
theorem J71_eq (call : CallA) (n : Nat) (x0a : Option Pos) (x0l : Nat) (x0c : Cap) (x1 : Int) (S : AS) : evC E call n 71 (E.at 71 []) 0 (enumT 0 [(.sl x0a x0l x0c), (.int .u64 x1)]) S (retK E (E.fn 71)) = J71 call n x0a x0l x0c x1 S := by
  rw [J71, a71_entry, h71_l1_0 call n  n]
theorem F71 {o : Orc} (n : Nat) (x0a : Option Pos) (x0l : Nat) (x0c : Cap) (x1 : Int) (S : AS) (ho : ∀ args, o 71 args = none) : evF E o (n + 1) (.fn 71) [(.sl x0a x0l x0c), (.int .u64 x1)] S = J71 (evF E o n) n x0a x0l x0c x1 S := (run71 o n [(.sl x0a x0l x0c), (.int .u64 x1)] S (ho _)).trans (J71_eq _ _ x0a x0l x0c x1 S)
def b72_l1_1_0_1_0 (call : CallA) (n : Nat) (l1_1_0_1_0 : Int → Option Pos → Nat → Cap → Int → Int → AS → Option (AV × AS)) (w3 : Int) (w6a : Option Pos) (w6l : Nat) (w6c : Cap) (w7 : Int) (w8 : Int) (S : AS) : Option (AV × AS) :=
cond (decide (w8 < w7)) (
ixSl 1 w6a w6l w8 fun p1 =>
ldI .u8 S p1.1 p1.2 fun v2 =>
l1_1_0_1_0 (orI .u64 (shlI .u64 w3 8) (IntKind.wrap .u64 v2)) w6a w6l w6c w7 (IntKind.wrap .i64 (w8 + 1)) S) (
some ((.int .u64 w3), S))

def b72_entry (call : CallA) (n : Nat) (l1_1_0_1_0 : Int → Option Pos → Nat → Cap → Int → Int → AS → Option (AV × AS)) (x0a : Option Pos) (x0l : Nat) (x0c : Cap) (S : AS) : Option (AV × AS) :=
l1_1_0_1_0 0 x0a x0l x0c ((x0l : Nat) : Int) 0 S

def r72_l1_1_0_1_0 (call : CallA) (n : Nat)  (m : Nat) (w3 : Int) (w6a : Option Pos) (w6l : Nat) (w6c : Cap) (w7 : Int) (w8 : Int) (S : AS) : Option (AV × AS) := loopN (evC E call n 72 (E.at 72 [1, 1, 0, 1, 0, 0]) 0) [3, 6, 7, 8] m [(3, (.int .u64 w3)), (6, (.sl w6a w6l w6c)), (7, (.int .i64 w7)), (8, (.int .i64 w8))] S (kBlk 0 (kSeq E call n 72 (E.at 72 [1, 1, 1]) 0 (retK E (E.fn 72))))
theorem a72_l1_1_0_1_0 (call : CallA) (n : Nat)  (m : Nat) (w3 : Int) (w6a : Option Pos) (w6l : Nat) (w6c : Cap) (w7 : Int) (w8 : Int) (S : AS) : r72_l1_1_0_1_0 call n  (m + 1) w3 w6a w6l w6c w7 w8 S = b72_l1_1_0_1_0 call n (r72_l1_1_0_1_0 call n  m) w3 w6a w6l w6c w7 w8 S := by kernel_rfl
theorem a72_entry (call : CallA) (n : Nat) (x0a : Option Pos) (x0l : Nat) (x0c : Cap) (S : AS) : evC E call n 72 (E.at 72 []) 0 (enumT 0 [(.sl x0a x0l x0c)]) S (retK E (E.fn 72)) = b72_entry call n (r72_l1_1_0_1_0 call n  n) x0a x0l x0c S := by kernel_rfl
def J72_l1_1_0_1_0 (call : CallA) (n : Nat)  (m : Nat) : Int → Option Pos → Nat → Cap → Int → Int → AS → Option (AV × AS) := Nat.rec (motive := fun _ => Int → Option Pos → Nat → Cap → Int → Int → AS → Option (AV × AS)) (fun _ _ _ _ _ _ _ => none) (fun _ ih w3 w6a w6l w6c w7 w8 S => b72_l1_1_0_1_0 call n ih w3 w6a w6l w6c w7 w8 S) m
theorem J72_l1_1_0_1_0_succ (call : CallA) (n : Nat)  (m : Nat) (w3 : Int) (w6a : Option Pos) (w6l : Nat) (w6c : Cap) (w7 : Int) (w8 : Int) (S : AS) : J72_l1_1_0_1_0 call n  (m + 1) w3 w6a w6l w6c w7 w8 S = b72_l1_1_0_1_0 call n (J72_l1_1_0_1_0 call n  m) w3 w6a w6l w6c w7 w8 S := rfl
theorem h72_l1_1_0_1_0 (call : CallA) (n : Nat)  (m : Nat) : r72_l1_1_0_1_0 call n  m = J72_l1_1_0_1_0 call n  m := by
  induction m with
  | zero => rfl
  | succ m ih =>
    funext w3 w6a w6l w6c w7 w8 S
    rw [J72_l1_1_0_1_0_succ, a72_l1_1_0_1_0, ih]
def J72 (call : CallA) (n : Nat) (x0a : Option Pos) (x0l : Nat) (x0c : Cap) (S : AS) : Option (AV × AS) := b72_entry call n (J72_l1_1_0_1_0 call n  n) x0a x0l x0c S
theorem run72 (o : Orc) (n : Nat) (args : List AV) (S : AS) (ho : o 72 args = none) : evF E o (n + 1) (.fn 72) args S = evC E (evF E o n) n 72 (E.at 72 []) 0 (enumT 0 args) S (retK E (E.fn 72)) := by
  rw [evF, ho]; kernel_rfl
theorem J72_eq (call : CallA) (n : Nat) (x0a : Option Pos) (x0l : Nat) (x0c : Cap) (S : AS) : evC E call n 72 (E.at 72 []) 0 (enumT 0 [(.sl x0a x0l x0c)]) S (retK E (E.fn 72)) = J72 call n x0a x0l x0c S := by
  rw [J72, a72_entry, h72_l1_1_0_1_0 call n  n]
theorem F72 {o : Orc} (n : Nat) (x0a : Option Pos) (x0l : Nat) (x0c : Cap) (S : AS) (ho : ∀ args, o 72 args = none) : evF E o (n + 1) (.fn 72) [(.sl x0a x0l x0c)] S = J72 (evF E o n) n x0a x0l x0c S := (run72 o n [(.sl x0a x0l x0c)] S (ho _)).trans (J72_eq _ _ x0a x0l x0c S)
def b73_l1_1_0_1_0 (call : CallA) (n : Nat) (l1_1_0_1_0 : Option Pos → Nat → Cap → Option Pos → Nat → Cap → Bool → Int → Int → AS → Option (AV × AS)) (w0a : Option Pos) (w0l : Nat) (w0c : Cap) (w1a : Option Pos) (w1l : Nat) (w1c : Cap) (w4 : Bool) (w12 : Int) (w13 : Int) (S : AS) : Option (AV × AS) :=
cond (decide (w13 < w12)) (
ixSl 1 w0a w0l w13 fun p1 =>
ldI .u8 S p1.1 p1.2 fun v2 =>
ixSl 1 w1a w1l w13 fun p3 =>
ldI .u8 S p3.1 p3.2 fun v4 =>
cond (v2 != v4) (
some ((.bool false), S)) (
l1_1_0_1_0 w0a w0l w0c w1a w1l w1c w4 w12 (IntKind.wrap .i64 (w13 + 1)) S)) (
some ((.bool true), S))

def b73_entry (call : CallA) (n : Nat) (l1_1_0_1_0 : Option Pos → Nat → Cap → Option Pos → Nat → Cap → Bool → Int → Int → AS → Option (AV × AS)) (x0a : Option Pos) (x0l : Nat) (x0c : Cap) (x1a : Option Pos) (x1l : Nat) (x1c : Cap) (S : AS) : Option (AV × AS) :=
cond (((x0l : Nat) : Int) != ((x1l : Nat) : Int)) (
some ((.bool false), S)) (
l1_1_0_1_0 x0a x0l x0c x1a x1l x1c false ((x0l : Nat) : Int) 0 S)

def r73_l1_1_0_1_0 (call : CallA) (n : Nat)  (m : Nat) (w0a : Option Pos) (w0l : Nat) (w0c : Cap) (w1a : Option Pos) (w1l : Nat) (w1c : Cap) (w4 : Bool) (w12 : Int) (w13 : Int) (S : AS) : Option (AV × AS) := loopN (evC E call n 73 (E.at 73 [1, 1, 0, 1, 0, 0]) 0) [0, 1, 4, 12, 13] m [(0, (.sl w0a w0l w0c)), (1, (.sl w1a w1l w1c)), (4, (.bool w4)), (12, (.int .i64 w12)), (13, (.int .i64 w13))] S (kBlk 0 (kSeq E call n 73 (E.at 73 [1, 1, 1]) 0 (retK E (E.fn 73))))
theorem a73_l1_1_0_1_0 (call : CallA) (n : Nat)  (m : Nat) (w0a : Option Pos) (w0l : Nat) (w0c : Cap) (w1a : Option Pos) (w1l : Nat) (w1c : Cap) (w4 : Bool) (w12 : Int) (w13 : Int) (S : AS) : r73_l1_1_0_1_0 call n  (m + 1) w0a w0l w0c w1a w1l w1c w4 w12 w13 S = b73_l1_1_0_1_0 call n (r73_l1_1_0_1_0 call n  m) w0a w0l w0c w1a w1l w1c w4 w12 w13 S := by kernel_rfl
theorem a73_entry (call : CallA) (n : Nat) (x0a : Option Pos) (x0l : Nat) (x0c : Cap) (x1a : Option Pos) (x1l : Nat) (x1c : Cap) (S : AS) : evC E call n 73 (E.at 73 []) 0 (enumT 0 [(.sl x0a x0l x0c), (.sl x1a x1l x1c)]) S (retK E (E.fn 73)) = b73_entry call n (r73_l1_1_0_1_0 call n  n) x0a x0l x0c x1a x1l x1c S := by kernel_rfl
def J73_l1_1_0_1_0 (call : CallA) (n : Nat)  (m : Nat) : Option Pos → Nat → Cap → Option Pos → Nat → Cap → Bool → Int → Int → AS → Option (AV × AS) := Nat.rec (motive := fun _ => Option Pos → Nat → Cap → Option Pos → Nat → Cap → Bool → Int → Int → AS → Option (AV × AS)) (fun _ _ _ _ _ _ _ _ _ _ => none) (fun _ ih w0a w0l w0c w1a w1l w1c w4 w12 w13 S => b73_l1_1_0_1_0 call n ih w0a w0l w0c w1a w1l w1c w4 w12 w13 S) m
theorem J73_l1_1_0_1_0_succ (call : CallA) (n : Nat)  (m : Nat) (w0a : Option Pos) (w0l : Nat) (w0c : Cap) (w1a : Option Pos) (w1l : Nat) (w1c : Cap) (w4 : Bool) (w12 : Int) (w13 : Int) (S : AS) : J73_l1_1_0_1_0 call n  (m + 1) w0a w0l w0c w1a w1l w1c w4 w12 w13 S = b73_l1_1_0_1_0 call n (J73_l1_1_0_1_0 call n  m) w0a w0l w0c w1a w1l w1c w4 w12 w13 S := rfl
theorem h73_l1_1_0_1_0 (call : CallA) (n : Nat)  (m : Nat) : r73_l1_1_0_1_0 call n  m = J73_l1_1_0_1_0 call n  m := by
  induction m with
  | zero => rfl
  | succ m ih =>
    funext w0a w0l w0c w1a w1l w1c w4 w12 w13 S
    rw [J73_l1_1_0_1_0_succ, a73_l1_1_0_1_0, ih]
def J73 (call : CallA) (n : Nat) (x0a : Option Pos) (x0l : Nat) (x0c : Cap) (x1a : Option Pos) (x1l : Nat) (x1c : Cap) (S : AS) : Option (AV × AS) := b73_entry call n (J73_l1_1_0_1_0 call n  n) x0a x0l x0c x1a x1l x1c S
theorem run73 (o : Orc) (n : Nat) (args : List AV) (S : AS) (ho : o 73 args = none) : evF E o (n + 1) (.fn 73) args S = evC E (evF E o n) n 73 (E.at 73 []) 0 (enumT 0 args) S (retK E (E.fn 73)) := by
  rw [evF, ho]; kernel_rfl
theorem J73_eq (call : CallA) (n : Nat) (x0a : Option Pos) (x0l : Nat) (x0c : Cap) (x1a : Option Pos) (x1l : Nat) (x1c : Cap) (S : AS) : evC E call n 73 (E.at 73 []) 0 (enumT 0 [(.sl x0a x0l x0c), (.sl x1a x1l x1c)]) S (retK E (E.fn 73)) = J73 call n x0a x0l x0c x1a x1l x1c S := by
  rw [J73, a73_entry, h73_l1_1_0_1_0 call n  n]
theorem F73 {o : Orc} (n : Nat) (x0a : Option Pos) (x0l : Nat) (x0c : Cap) (x1a : Option Pos) (x1l : Nat) (x1c : Cap) (S : AS) (ho : ∀ args, o 73 args = none) : evF E o (n + 1) (.fn 73) [(.sl x0a x0l x0c), (.sl x1a x1l x1c)] S = J73 (evF E o n) n x0a x0l x0c x1a x1l x1c S := (run73 o n [(.sl x0a x0l x0c), (.sl x1a x1l x1c)] S (ho _)).trans (J73_eq _ _ x0a x0l x0c x1a x1l x1c S)
def b75_entry (call : CallA) (n : Nat)  (x0 : Int) (S : AS) : Option (AV × AS) :=
callI .i64 call 87 [(.int .u64 x0)] S fun v2 S1 =>
some ((.int .i64 v2), S1)

theorem a75_entry (call : CallA) (n : Nat) (x0 : Int) (S : AS) : evC E call n 75 (E.at 75 []) 0 (enumT 0 [(.int .u64 x0)]) S (retK E (E.fn 75)) = b75_entry call n  x0 S := by kernel_rfl
def J75 (call : CallA) (n : Nat) (x0 : Int) (S : AS) : Option (AV × AS) := b75_entry call n  x0 S
theorem run75 (o : Orc) (n : Nat) (args : List AV) (S : AS) (ho : o 75 args = none) : evF E o (n + 1) (.fn 75) args S = evC E (evF E o n) n 75 (E.at 75 []) 0 (enumT 0 args) S (retK E (E.fn 75)) := by
  rw [evF, ho]; kernel_rfl
theorem J75_eq (call : CallA) (n : Nat) (x0 : Int) (S : AS) : evC E call n 75 (E.at 75 []) 0 (enumT 0 [(.int .u64 x0)]) S (retK E (E.fn 75)) = J75 call n x0 S := by
  rw [J75, a75_entry]
theorem F75 {o : Orc} (n : Nat) (x0 : Int) (S : AS) (ho : ∀ args, o 75 args = none) : evF E o (n + 1) (.fn 75) [(.int .u64 x0)] S = J75 (evF E o n) n x0 S := (run75 o n [(.int .u64 x0)] S (ho _)).trans (J75_eq _ _ x0 S)
def b76_entry (call : CallA) (n : Nat)  (x0 : Int) (S : AS) : Option (AV × AS) :=
some ((.bool (x0 != x0)), S)

theorem a76_entry (call : CallA) (n : Nat) (x0 : Int) (S : AS) : evC E call n 76 (E.at 76 []) 0 (enumT 0 [(.int .u64 x0)]) S (retK E (E.fn 76)) = b76_entry call n  x0 S := by kernel_rfl
def J76 (call : CallA) (n : Nat) (x0 : Int) (S : AS) : Option (AV × AS) := b76_entry call n  x0 S
theorem run76 (o : Orc) (n : Nat) (args : List AV) (S : AS) (ho : o 76 args = none) : evF E o (n + 1) (.fn 76) args S = evC E (evF E o n) n 76 (E.at 76 []) 0 (enumT 0 args) S (retK E (E.fn 76)) := by
  rw [evF, ho]; kernel_rfl
theorem J76_eq (call : CallA) (n : Nat) (x0 : Int) (S : AS) : evC E call n 76 (E.at 76 []) 0 (enumT 0 [(.int .u64 x0)]) S (retK E (E.fn 76)) = J76 call n x0 S := by
  rw [J76, a76_entry]
theorem F76 {o : Orc} (n : Nat) (x0 : Int) (S : AS) (ho : ∀ args, o 76 args = none) : evF E o (n + 1) (.fn 76) [(.int .u64 x0)] S = J76 (evF E o n) n x0 S := (run76 o n [(.int .u64 x0)] S (ho _)).trans (J76_eq _ _ x0 S)
def b77_entry (call : CallA) (n : Nat)  (x0 : Int) (S : AS) : Option (AV × AS) :=
some ((.bool (x0 != x0)), S)

theorem a77_entry (call : CallA) (n : Nat) (x0 : Int) (S : AS) : evC E call n 77 (E.at 77 []) 0 (enumT 0 [(.int .i64 x0)]) S (retK E (E.fn 77)) = b77_entry call n  x0 S := by kernel_rfl
def J77 (call : CallA) (n : Nat) (x0 : Int) (S : AS) : Option (AV × AS) := b77_entry call n  x0 S
theorem run77 (o : Orc) (n : Nat) (args : List AV) (S : AS) (ho : o 77 args = none) : evF E o (n + 1) (.fn 77) args S = evC E (evF E o n) n 77 (E.at 77 []) 0 (enumT 0 args) S (retK E (E.fn 77)) := by
  rw [evF, ho]; kernel_rfl
theorem J77_eq (call : CallA) (n : Nat) (x0 : Int) (S : AS) : evC E call n 77 (E.at 77 []) 0 (enumT 0 [(.int .i64 x0)]) S (retK E (E.fn 77)) = J77 call n x0 S := by
  rw [J77, a77_entry]
theorem F77 {o : Orc} (n : Nat) (x0 : Int) (S : AS) (ho : ∀ args, o 77 args = none) : evF E o (n + 1) (.fn 77) [(.int .i64 x0)] S = J77 (evF E o n) n x0 S := (run77 o n [(.int .i64 x0)] S (ho _)).trans (J77_eq _ _ x0 S)
def b79_l1_1_1_0_1_0 (call : CallA) (n : Nat) (l1_1_1_0_1_0 : Option Pos → Nat → Cap → AV → Int → Int → Int → Int → AS → Option (AV × AS)) (j1_1_1_1 : Option Pos → Nat → Cap → AV → Int → Int → Int → AS → Option (AV × AS)) (w0a : Option Pos) (w0l : Nat) (w0c : Cap) (w3 : AV) (w8 : Int) (w9 : Int) (w10 : Int) (w11 : Int) (S : AS) : Option (AV × AS) :=
cond (decide (w11 ≥ 0)) (
callT call 88 [(.sl w0a w0l w0c), (.int .i64 w11), (.int .i64 w10), (.int .i64 w8), w3] S fun v2 S1 =>
l1_1_1_0_1_0 w0a w0l w0c w3 w8 w9 w10 (IntKind.wrap .i64 (w11 - 1)) S1) (
j1_1_1_1 w0a w0l w0c w3 w8 w9 w10 S)

def b79_j1_1_1_1 (call : CallA) (n : Nat) (l1_1_1_1_1_0 : Option Pos → Nat → Cap → AV → Int → Int → Int → AS → Option (AV × AS)) (w0a : Option Pos) (w0l : Nat) (w0c : Cap) (w3 : AV) (w8 : Int) (w9 : Int) (w10 : Int) (S : AS) : Option (AV × AS) :=
l1_1_1_1_1_0 w0a w0l w0c w3 w8 w9 (IntKind.wrap .i64 (w10 - 1)) S

def b79_l1_1_1_1_1_0 (call : CallA) (n : Nat) (l1_1_1_1_1_0 : Option Pos → Nat → Cap → AV → Int → Int → Int → AS → Option (AV × AS)) (w0a : Option Pos) (w0l : Nat) (w0c : Cap) (w3 : AV) (w8 : Int) (w9 : Int) (w12 : Int) (S : AS) : Option (AV × AS) :=
cond (decide (w12 ≥ 0)) (
ixSl 1 w0a w0l (IntKind.wrap .i64 (w8 + w12)) fun p3 =>
ldP S p3.1 p3.2 fun v4 =>
ixSl 1 w0a w0l w8 fun p5 =>
ldP S p5.1 p5.2 fun v6 =>
ixSl 1 w0a w0l w8 fun p7 =>
S.stn p7.1 p7.2 [(.ptr v4)] fun S8 =>
ixSl 1 w0a w0l (IntKind.wrap .i64 (w8 + w12)) fun p9 =>
S8.stn p9.1 p9.2 [(.ptr v6)] fun S10 =>
callT call 88 [(.sl w0a w0l w0c), (.int .i64 w9), (.int .i64 w12), (.int .i64 w8), w3] S10 fun v12 S11 =>
l1_1_1_1_1_0 w0a w0l w0c w3 w8 w9 (IntKind.wrap .i64 (w12 - 1)) S11) (
some (.tup [], S))

def b79_entry (call : CallA) (n : Nat) (l1_1_1_0_1_0 : Option Pos → Nat → Cap → AV → Int → Int → Int → Int → AS → Option (AV × AS)) (x0a : Option Pos) (x0l : Nat) (x0c : Cap) (x1 : Int) (x2 : Int) (x3 : AV) (S : AS) : Option (AV × AS) :=
l1_1_1_0_1_0 x0a x0l x0c x3 x1 0 (IntKind.wrap .i64 (x2 - x1)) (IntKind.wrap .i64 (Int.tdiv (IntKind.wrap .i64 ((IntKind.wrap .i64 (x2 - x1)) - 1)) 2)) S

def r79_l1_1_1_0_1_0 (call : CallA) (n : Nat)  (m : Nat) (w0a : Option Pos) (w0l : Nat) (w0c : Cap) (w3 : AV) (w8 : Int) (w9 : Int) (w10 : Int) (w11 : Int) (S : AS) : Option (AV × AS) := loopN (evC E call n 79 (E.at 79 [1, 1, 1, 0, 1, 0, 0]) 0) [0, 3, 8, 9, 10, 11] m [(0, (.sl w0a w0l w0c)), (3, w3), (8, (.int .i64 w8)), (9, (.int .i64 w9)), (10, (.int .i64 w10)), (11, (.int .i64 w11))] S (kBlk 0 (kSeq E call n 79 (E.at 79 [1, 1, 1, 1]) 0 (retK E (E.fn 79))))
def r79_j1_1_1_1 (call : CallA) (n : Nat)  (w0a : Option Pos) (w0l : Nat) (w0c : Cap) (w3 : AV) (w8 : Int) (w9 : Int) (w10 : Int) (S : AS) : Option (AV × AS) := evC E call n 79 (E.at 79 [1, 1, 1, 1]) 0 [(0, (.sl w0a w0l w0c)), (3, w3), (8, (.int .i64 w8)), (9, (.int .i64 w9)), (10, (.int .i64 w10))] S (retK E (E.fn 79))
def r79_l1_1_1_1_1_0 (call : CallA) (n : Nat)  (m : Nat) (w0a : Option Pos) (w0l : Nat) (w0c : Cap) (w3 : AV) (w8 : Int) (w9 : Int) (w12 : Int) (S : AS) : Option (AV × AS) := loopN (evC E call n 79 (E.at 79 [1, 1, 1, 1, 1, 0, 0]) 2) [0, 3, 8, 9, 12] m [(0, (.sl w0a w0l w0c)), (3, w3), (8, (.int .i64 w8)), (9, (.int .i64 w9)), (12, (.int .i64 w12))] S (kBlk 2 (retK E (E.fn 79)))
theorem a79_l1_1_1_0_1_0 (call : CallA) (n : Nat)  (m : Nat) (w0a : Option Pos) (w0l : Nat) (w0c : Cap) (w3 : AV) (w8 : Int) (w9 : Int) (w10 : Int) (w11 : Int) (S : AS) : r79_l1_1_1_0_1_0 call n  (m + 1) w0a w0l w0c w3 w8 w9 w10 w11 S = b79_l1_1_1_0_1_0 call n (r79_l1_1_1_0_1_0 call n  m) (r79_j1_1_1_1 call n ) w0a w0l w0c w3 w8 w9 w10 w11 S := by kernel_rfl
theorem a79_j1_1_1_1 (call : CallA) (n : Nat)  (w0a : Option Pos) (w0l : Nat) (w0c : Cap) (w3 : AV) (w8 : Int) (w9 : Int) (w10 : Int) (S : AS) : r79_j1_1_1_1 call n  w0a w0l w0c w3 w8 w9 w10 S = b79_j1_1_1_1 call n (r79_l1_1_1_1_1_0 call n  n) w0a w0l w0c w3 w8 w9 w10 S := by kernel_rfl
theorem a79_l1_1_1_1_1_0 (call : CallA) (n : Nat)  (m : Nat) (w0a : Option Pos) (w0l : Nat) (w0c : Cap) (w3 : AV) (w8 : Int) (w9 : Int) (w12 : Int) (S : AS) : r79_l1_1_1_1_1_0 call n  (m + 1) w0a w0l w0c w3 w8 w9 w12 S = b79_l1_1_1_1_1_0 call n (r79_l1_1_1_1_1_0 call n  m) w0a w0l w0c w3 w8 w9 w12 S := by kernel_rfl
theorem a79_entry (call : CallA) (n : Nat) (x0a : Option Pos) (x0l : Nat) (x0c : Cap) (x1 : Int) (x2 : Int) (x3 : AV) (S : AS) : evC E call n 79 (E.at 79 []) 0 (enumT 0 [(.sl x0a x0l x0c), (.int .i64 x1), (.int .i64 x2), x3]) S (retK E (E.fn 79)) = b79_entry call n (r79_l1_1_1_0_1_0 call n  n) x0a x0l x0c x1 x2 x3 S := by kernel_rfl
def J79_l1_1_1_1_1_0 (call : CallA) (n : Nat)  (m : Nat) : Option Pos → Nat → Cap → AV → Int → Int → Int → AS → Option (AV × AS) := Nat.rec (motive := fun _ => Option Pos → Nat → Cap → AV → Int → Int → Int → AS → Option (AV × AS)) (fun _ _ _ _ _ _ _ _ => none) (fun _ ih w0a w0l w0c w3 w8 w9 w12 S => b79_l1_1_1_1_1_0 call n ih w0a w0l w0c w3 w8 w9 w12 S) m
theorem J79_l1_1_1_1_1_0_succ (call : CallA) (n : Nat)  (m : Nat) (w0a : Option Pos) (w0l : Nat) (w0c : Cap) (w3 : AV) (w8 : Int) (w9 : Int) (w12 : Int) (S : AS) : J79_l1_1_1_1_1_0 call n  (m + 1) w0a w0l w0c w3 w8 w9 w12 S = b79_l1_1_1_1_1_0 call n (J79_l1_1_1_1_1_0 call n  m) w0a w0l w0c w3 w8 w9 w12 S := rfl
theorem h79_l1_1_1_1_1_0 (call : CallA) (n : Nat)  (m : Nat) : r79_l1_1_1_1_1_0 call n  m = J79_l1_1_1_1_1_0 call n  m := by
  induction m with
  | zero => rfl
  | succ m ih =>
    funext w0a w0l w0c w3 w8 w9 w12 S
    rw [J79_l1_1_1_1_1_0_succ, a79_l1_1_1_1_1_0, ih]
def J79_j1_1_1_1 (call : CallA) (n : Nat)  (w0a : Option Pos) (w0l : Nat) (w0c : Cap) (w3 : AV) (w8 : Int) (w9 : Int) (w10 : Int) (S : AS) : Option (AV × AS) := b79_j1_1_1_1 call n (J79_l1_1_1_1_1_0 call n  n) w0a w0l w0c w3 w8 w9 w10 S
theorem h79_j1_1_1_1 (call : CallA) (n : Nat)  : r79_j1_1_1_1 call n  = J79_j1_1_1_1 call n  := by
  funext w0a w0l w0c w3 w8 w9 w10 S
  rw [J79_j1_1_1_1, a79_j1_1_1_1, h79_l1_1_1_1_1_0 call n  n]
def J79_l1_1_1_0_1_0 (call : CallA) (n : Nat)  (m : Nat) : Option Pos → Nat → Cap → AV → Int → Int → Int → Int → AS → Option (AV × AS) := Nat.rec (motive := fun _ => Option Pos → Nat → Cap → AV → Int → Int → Int → Int → AS → Option (AV × AS)) (fun _ _ _ _ _ _ _ _ _ => none) (fun _ ih w0a w0l w0c w3 w8 w9 w10 w11 S => b79_l1_1_1_0_1_0 call n ih (J79_j1_1_1_1 call n ) w0a w0l w0c w3 w8 w9 w10 w11 S) m
theorem J79_l1_1_1_0_1_0_succ (call : CallA) (n : Nat)  (m : Nat) (w0a : Option Pos) (w0l : Nat) (w0c : Cap) (w3 : AV) (w8 : Int) (w9 : Int) (w10 : Int) (w11 : Int) (S : AS) : J79_l1_1_1_0_1_0 call n  (m + 1) w0a w0l w0c w3 w8 w9 w10 w11 S = b79_l1_1_1_0_1_0 call n (J79_l1_1_1_0_1_0 call n  m) (J79_j1_1_1_1 call n ) w0a w0l w0c w3 w8 w9 w10 w11 S := rfl
theorem h79_l1_1_1_0_1_0 (call : CallA) (n : Nat)  (m : Nat) : r79_l1_1_1_0_1_0 call n  m = J79_l1_1_1_0_1_0 call n  m := by
  induction m with
  | zero => rfl
  | succ m ih =>
    funext w0a w0l w0c w3 w8 w9 w10 w11 S
    rw [J79_l1_1_1_0_1_0_succ, a79_l1_1_1_0_1_0, h79_j1_1_1_1 call n , ih]
def J79 (call : CallA) (n : Nat) (x0a : Option Pos) (x0l : Nat) (x0c : Cap) (x1 : Int) (x2 : Int) (x3 : AV) (S : AS) : Option (AV × AS) := b79_entry call n (J79_l1_1_1_0_1_0 call n  n) x0a x0l x0c x1 x2 x3 S
theorem run79 (o : Orc) (n : Nat) (args : List AV) (S : AS) (ho : o 79 args = none) : evF E o (n + 1) (.fn 79) args S = evC E (evF E o n) n 79 (E.at 79 []) 0 (enumT 0 args) S (retK E (E.fn 79)) := by
  rw [evF, ho]; kernel_rfl
theorem J79_eq (call : CallA) (n : Nat) (x0a : Option Pos) (x0l : Nat) (x0c : Cap) (x1 : Int) (x2 : Int) (x3 : AV) (S : AS) : evC E call n 79 (E.at 79 []) 0 (enumT 0 [(.sl x0a x0l x0c), (.int .i64 x1), (.int .i64 x2), x3]) S (retK E (E.fn 79)) = J79 call n x0a x0l x0c x1 x2 x3 S := by
  rw [J79, a79_entry, h79_l1_1_1_0_1_0 call n  n]
theorem F79 {o : Orc} (n : Nat) (x0a : Option Pos) (x0l : Nat) (x0c : Cap) (x1 : Int) (x2 : Int) (x3 : AV) (S : AS) (ho : ∀ args, o 79 args = none) : evF E o (n + 1) (.fn 79) [(.sl x0a x0l x0c), (.int .i64 x1), (.int .i64 x2), x3] S = J79 (evF E o n) n x0a x0l x0c x1 x2 x3 S := (run79 o n [(.sl x0a x0l x0c), (.int .i64 x1), (.int .i64 x2), x3] S (ho _)).trans (J79_eq _ _ x0a x0l x0c x1 x2 x3 S)
def b81_j1_1_1_1_1_1_0_1_0_1 (call : CallA) (n : Nat) (j1_1_1_1_1_1_1 : Option Pos → Int → AS → Option (AV × AS)) (w0a : Option Pos) (w0l : Nat) (w0c : Cap) (w3 : AV) (w11 : Option Pos) (w12 : Int) (w13 : Int) (w14 : Int) (S : AS) : Option (AV × AS) :=
callI .i64 call 92 [(.sl w0a w0l w0c), (.int .i64 w12), (.int .i64 w13), (.int .i64 w14), (.ptr w11), w3] S fun v10 S9 =>
j1_1_1_1_1_1_1 w11 v10 S9

def b81_j1_1_1_1_1_1_1 (call : CallA) (n : Nat)  (w11 : Option Pos) (w13 : Int) (S : AS) : Option (AV × AS) :=
gO w11 fun p11 =>
ldI .i64 S p11.1 p11.2 fun v12 =>
cond (v12 == 0) (
some (.tup [(.int .i64 w13), (.int .i64 1)], S)) (
cond (v12 == 12) (
some (.tup [(.int .i64 w13), (.int .i64 2)], S)) (
some (.tup [(.int .i64 w13), (.int .i64 0)], S)))

def b81_entry (call : CallA) (n : Nat) (j1_1_1_1_1_1_0_1_0_1 : Option Pos → Nat → Cap → AV → Option Pos → Int → Int → Int → AS → Option (AV × AS)) (j1_1_1_1_1_1_1 : Option Pos → Int → AS → Option (AV × AS)) (x0a : Option Pos) (x0l : Nat) (x0c : Cap) (x1 : Int) (x2 : Int) (x3 : AV) (S : AS) : Option (AV × AS) :=
newA S (.cells [(.int .i64 0)]) fun b1 S2 =>
cond (decide ((IntKind.wrap .i64 (x2 - x1)) ≥ 8)) (
cond (decide ((IntKind.wrap .i64 (x2 - x1)) ≥ 50)) (
callI .i64 call 91 [(.sl x0a x0l x0c), (.int .i64 (IntKind.wrap .i64 (x1 + (IntKind.wrap .i64 ((IntKind.wrap .i64 (Int.tdiv (IntKind.wrap .i64 (x2 - x1)) 4)) * 1))))), (.ptr (some ((.rw b1), 0))), x3] S2 fun v4 S3 =>
callI .i64 call 91 [(.sl x0a x0l x0c), (.int .i64 (IntKind.wrap .i64 (x1 + (IntKind.wrap .i64 ((IntKind.wrap .i64 (Int.tdiv (IntKind.wrap .i64 (x2 - x1)) 4)) * 2))))), (.ptr (some ((.rw b1), 0))), x3] S3 fun v6 S5 =>
callI .i64 call 91 [(.sl x0a x0l x0c), (.int .i64 (IntKind.wrap .i64 (x1 + (IntKind.wrap .i64 ((IntKind.wrap .i64 (Int.tdiv (IntKind.wrap .i64 (x2 - x1)) 4)) * 3))))), (.ptr (some ((.rw b1), 0))), x3] S5 fun v8 S7 =>
j1_1_1_1_1_1_0_1_0_1 x0a x0l x0c x3 (some ((.rw b1), 0)) v4 v6 v8 S7) (
j1_1_1_1_1_1_0_1_0_1 x0a x0l x0c x3 (some ((.rw b1), 0)) (IntKind.wrap .i64 (x1 + (IntKind.wrap .i64 ((IntKind.wrap .i64 (Int.tdiv (IntKind.wrap .i64 (x2 - x1)) 4)) * 1)))) (IntKind.wrap .i64 (x1 + (IntKind.wrap .i64 ((IntKind.wrap .i64 (Int.tdiv (IntKind.wrap .i64 (x2 - x1)) 4)) * 2)))) (IntKind.wrap .i64 (x1 + (IntKind.wrap .i64 ((IntKind.wrap .i64 (Int.tdiv (IntKind.wrap .i64 (x2 - x1)) 4)) * 3)))) S2)) (
j1_1_1_1_1_1_1 (some ((.rw b1), 0)) (IntKind.wrap .i64 (x1 + (IntKind.wrap .i64 ((IntKind.wrap .i64 (Int.tdiv (IntKind.wrap .i64 (x2 - x1)) 4)) * 2)))) S2)

def r81_j1_1_1_1_1_1_0_1_0_1 (call : CallA) (n : Nat)  (w0a : Option Pos) (w0l : Nat) (w0c : Cap) (w3 : AV) (w11 : Option Pos) (w12 : Int) (w13 : Int) (w14 : Int) (S : AS) : Option (AV × AS) := evC E call n 81 (E.at 81 [1, 1, 1, 1, 1, 1, 0, 1, 0, 1]) 0 [(0, (.sl w0a w0l w0c)), (3, w3), (11, (.ptr w11)), (12, (.int .i64 w12)), (13, (.int .i64 w13)), (14, (.int .i64 w14))] S (kSeq E call n 81 (E.at 81 [1, 1, 1, 1, 1, 1, 1]) 0 (retK E (E.fn 81)))
def r81_j1_1_1_1_1_1_1 (call : CallA) (n : Nat)  (w11 : Option Pos) (w13 : Int) (S : AS) : Option (AV × AS) := evC E call n 81 (E.at 81 [1, 1, 1, 1, 1, 1, 1]) 0 [(11, (.ptr w11)), (13, (.int .i64 w13))] S (retK E (E.fn 81))
theorem a81_j1_1_1_1_1_1_0_1_0_1 (call : CallA) (n : Nat)  (w0a : Option Pos) (w0l : Nat) (w0c : Cap) (w3 : AV) (w11 : Option Pos) (w12 : Int) (w13 : Int) (w14 : Int) (S : AS) : r81_j1_1_1_1_1_1_0_1_0_1 call n  w0a w0l w0c w3 w11 w12 w13 w14 S = b81_j1_1_1_1_1_1_0_1_0_1 call n (r81_j1_1_1_1_1_1_1 call n ) w0a w0l w0c w3 w11 w12 w13 w14 S := by kernel_rfl
theorem a81_j1_1_1_1_1_1_1 (call : CallA) (n : Nat)  (w11 : Option Pos) (w13 : Int) (S : AS) : r81_j1_1_1_1_1_1_1 call n  w11 w13 S = b81_j1_1_1_1_1_1_1 call n  w11 w13 S := by kernel_rfl
theorem a81_entry (call : CallA) (n : Nat) (x0a : Option Pos) (x0l : Nat) (x0c : Cap) (x1 : Int) (x2 : Int) (x3 : AV) (S : AS) : evC E call n 81 (E.at 81 []) 0 (enumT 0 [(.sl x0a x0l x0c), (.int .i64 x1), (.int .i64 x2), x3]) S (retK E (E.fn 81)) = b81_entry call n (r81_j1_1_1_1_1_1_0_1_0_1 call n ) (r81_j1_1_1_1_1_1_1 call n ) x0a x0l x0c x1 x2 x3 S := by kernel_rfl
def J81_j1_1_1_1_1_1_1 (call : CallA) (n : Nat)  (w11 : Option Pos) (w13 : Int) (S : AS) : Option (AV × AS) := b81_j1_1_1_1_1_1_1 call n  w11 w13 S
theorem h81_j1_1_1_1_1_1_1 (call : CallA) (n : Nat)  : r81_j1_1_1_1_1_1_1 call n  = J81_j1_1_1_1_1_1_1 call n  := by
  funext w11 w13 S
  rw [J81_j1_1_1_1_1_1_1, a81_j1_1_1_1_1_1_1]
def J81_j1_1_1_1_1_1_0_1_0_1 (call : CallA) (n : Nat)  (w0a : Option Pos) (w0l : Nat) (w0c : Cap) (w3 : AV) (w11 : Option Pos) (w12 : Int) (w13 : Int) (w14 : Int) (S : AS) : Option (AV × AS) := b81_j1_1_1_1_1_1_0_1_0_1 call n (J81_j1_1_1_1_1_1_1 call n ) w0a w0l w0c w3 w11 w12 w13 w14 S
theorem h81_j1_1_1_1_1_1_0_1_0_1 (call : CallA) (n : Nat)  : r81_j1_1_1_1_1_1_0_1_0_1 call n  = J81_j1_1_1_1_1_1_0_1_0_1 call n  := by
  funext w0a w0l w0c w3 w11 w12 w13 w14 S
  rw [J81_j1_1_1_1_1_1_0_1_0_1, a81_j1_1_1_1_1_1_0_1_0_1, h81_j1_1_1_1_1_1_1 call n ]
def J81 (call : CallA) (n : Nat) (x0a : Option Pos) (x0l : Nat) (x0c : Cap) (x1 : Int) (x2 : Int) (x3 : AV) (S : AS) : Option (AV × AS) := b81_entry call n (J81_j1_1_1_1_1_1_0_1_0_1 call n ) (J81_j1_1_1_1_1_1_1 call n ) x0a x0l x0c x1 x2 x3 S
theorem run81 (o : Orc) (n : Nat) (args : List AV) (S : AS) (ho : o 81 args = none) : evF E o (n + 1) (.fn 81) args S = evC E (evF E o n) n 81 (E.at 81 []) 0 (enumT 0 args) S (retK E (E.fn 81)) := by
  rw [evF, ho]; kernel_rfl
theorem J81_eq (call : CallA) (n : Nat) (x0a : Option Pos) (x0l : Nat) (x0c : Cap) (x1 : Int) (x2 : Int) (x3 : AV) (S : AS) : evC E call n 81 (E.at 81 []) 0 (enumT 0 [(.sl x0a x0l x0c), (.int .i64 x1), (.int .i64 x2), x3]) S (retK E (E.fn 81)) = J81 call n x0a x0l x0c x1 x2 x3 S := by
  rw [J81, a81_entry, h81_j1_1_1_1_1_1_0_1_0_1 call n , h81_j1_1_1_1_1_1_1 call n ]
theorem F81 {o : Orc} (n : Nat) (x0a : Option Pos) (x0l : Nat) (x0c : Cap) (x1 : Int) (x2 : Int) (x3 : AV) (S : AS) (ho : ∀ args, o 81 args = none) : evF E o (n + 1) (.fn 81) [(.sl x0a x0l x0c), (.int .i64 x1), (.int .i64 x2), x3] S = J81 (evF E o n) n x0a x0l x0c x1 x2 x3 S := (run81 o n [(.sl x0a x0l x0c), (.int .i64 x1), (.int .i64 x2), x3] S (ho _)).trans (J81_eq _ _ x0a x0l x0c x1 x2 x3 S)
def b82_l1_1_0 (call : CallA) (n : Nat) (l1_1_0 : Option Pos → Nat → Cap → Int → Int → AS → Option (AV × AS)) (w0a : Option Pos) (w0l : Nat) (w0c : Cap) (w8 : Int) (w9 : Int) (S : AS) : Option (AV × AS) :=
cond (decide (w8 < w9)) (
ixSl 1 w0a w0l w9 fun p1 =>
ldP S p1.1 p1.2 fun v2 =>
ixSl 1 w0a w0l w8 fun p3 =>
ldP S p3.1 p3.2 fun v4 =>
ixSl 1 w0a w0l w8 fun p5 =>
S.stn p5.1 p5.2 [(.ptr v2)] fun S6 =>
ixSl 1 w0a w0l w9 fun p7 =>
S6.stn p7.1 p7.2 [(.ptr v4)] fun S8 =>
l1_1_0 w0a w0l w0c (IntKind.wrap .i64 (w8 + 1)) (IntKind.wrap .i64 (w9 - 1)) S8) (
some (.tup [], S))

def b82_entry (call : CallA) (n : Nat) (l1_1_0 : Option Pos → Nat → Cap → Int → Int → AS → Option (AV × AS)) (x0a : Option Pos) (x0l : Nat) (x0c : Cap) (x1 : Int) (x2 : Int) (x3 : AV) (S : AS) : Option (AV × AS) :=
l1_1_0 x0a x0l x0c x1 (IntKind.wrap .i64 (x2 - 1)) S

def r82_l1_1_0 (call : CallA) (n : Nat)  (m : Nat) (w0a : Option Pos) (w0l : Nat) (w0c : Cap) (w8 : Int) (w9 : Int) (S : AS) : Option (AV × AS) := loopN (evC E call n 82 (E.at 82 [1, 1, 0, 0]) 0) [0, 8, 9] m [(0, (.sl w0a w0l w0c)), (8, (.int .i64 w8)), (9, (.int .i64 w9))] S (kBlk 0 (retK E (E.fn 82)))
theorem a82_l1_1_0 (call : CallA) (n : Nat)  (m : Nat) (w0a : Option Pos) (w0l : Nat) (w0c : Cap) (w8 : Int) (w9 : Int) (S : AS) : r82_l1_1_0 call n  (m + 1) w0a w0l w0c w8 w9 S = b82_l1_1_0 call n (r82_l1_1_0 call n  m) w0a w0l w0c w8 w9 S := by kernel_rfl
theorem a82_entry (call : CallA) (n : Nat) (x0a : Option Pos) (x0l : Nat) (x0c : Cap) (x1 : Int) (x2 : Int) (x3 : AV) (S : AS) : evC E call n 82 (E.at 82 []) 0 (enumT 0 [(.sl x0a x0l x0c), (.int .i64 x1), (.int .i64 x2), x3]) S (retK E (E.fn 82)) = b82_entry call n (r82_l1_1_0 call n  n) x0a x0l x0c x1 x2 x3 S := by kernel_rfl
def J82_l1_1_0 (call : CallA) (n : Nat)  (m : Nat) : Option Pos → Nat → Cap → Int → Int → AS → Option (AV × AS) := Nat.rec (motive := fun _ => Option Pos → Nat → Cap → Int → Int → AS → Option (AV × AS)) (fun _ _ _ _ _ _ => none) (fun _ ih w0a w0l w0c w8 w9 S => b82_l1_1_0 call n ih w0a w0l w0c w8 w9 S) m
theorem J82_l1_1_0_succ (call : CallA) (n : Nat)  (m : Nat) (w0a : Option Pos) (w0l : Nat) (w0c : Cap) (w8 : Int) (w9 : Int) (S : AS) : J82_l1_1_0 call n  (m + 1) w0a w0l w0c w8 w9 S = b82_l1_1_0 call n (J82_l1_1_0 call n  m) w0a w0l w0c w8 w9 S := rfl
theorem h82_l1_1_0 (call : CallA) (n : Nat)  (m : Nat) : r82_l1_1_0 call n  m = J82_l1_1_0 call n  m := by
  induction m with
  | zero => rfl
  | succ m ih =>
    funext w0a w0l w0c w8 w9 S
    rw [J82_l1_1_0_succ, a82_l1_1_0, ih]
def J82 (call : CallA) (n : Nat) (x0a : Option Pos) (x0l : Nat) (x0c : Cap) (x1 : Int) (x2 : Int) (x3 : AV) (S : AS) : Option (AV × AS) := b82_entry call n (J82_l1_1_0 call n  n) x0a x0l x0c x1 x2 x3 S
theorem run82 (o : Orc) (n : Nat) (args : List AV) (S : AS) (ho : o 82 args = none) : evF E o (n + 1) (.fn 82) args S = evC E (evF E o n) n 82 (E.at 82 []) 0 (enumT 0 args) S (retK E (E.fn 82)) := by
  rw [evF, ho]; kernel_rfl
theorem J82_eq (call : CallA) (n : Nat) (x0a : Option Pos) (x0l : Nat) (x0c : Cap) (x1 : Int) (x2 : Int) (x3 : AV) (S : AS) : evC E call n 82 (E.at 82 []) 0 (enumT 0 [(.sl x0a x0l x0c), (.int .i64 x1), (.int .i64 x2), x3]) S (retK E (E.fn 82)) = J82 call n x0a x0l x0c x1 x2 x3 S := by
  rw [J82, a82_entry, h82_l1_1_0 call n  n]
theorem F82 {o : Orc} (n : Nat) (x0a : Option Pos) (x0l : Nat) (x0c : Cap) (x1 : Int) (x2 : Int) (x3 : AV) (S : AS) (ho : ∀ args, o 82 args = none) : evF E o (n + 1) (.fn 82) [(.sl x0a x0l x0c), (.int .i64 x1), (.int .i64 x2), x3] S = J82 (evF E o n) n x0a x0l x0c x1 x2 x3 S := (run82 o n [(.sl x0a x0l x0c), (.int .i64 x1), (.int .i64 x2), x3] S (ho _)).trans (J82_eq _ _ x0a x0l x0c x1 x2 x3 S)
def b89_entry (call : CallA) (n : Nat)  (x0 : Int) (S : AS) : Option (AV × AS) :=
callI .i64 call 75 [(.int .u64 (IntKind.wrap .u64 x0))] S fun v2 S1 =>
nneg v2 <|
some ((.int .u64 (shlI .u64 1 v2)), S1)

theorem a89_entry (call : CallA) (n : Nat) (x0 : Int) (S : AS) : evC E call n 89 (E.at 89 []) 0 (enumT 0 [(.int .i64 x0)]) S (retK E (E.fn 89)) = b89_entry call n  x0 S := by kernel_rfl
def J89 (call : CallA) (n : Nat) (x0 : Int) (S : AS) : Option (AV × AS) := b89_entry call n  x0 S
theorem run89 (o : Orc) (n : Nat) (args : List AV) (S : AS) (ho : o 89 args = none) : evF E o (n + 1) (.fn 89) args S = evC E (evF E o n) n 89 (E.at 89 []) 0 (enumT 0 args) S (retK E (E.fn 89)) := by
  rw [evF, ho]; kernel_rfl
theorem J89_eq (call : CallA) (n : Nat) (x0 : Int) (S : AS) : evC E call n 89 (E.at 89 []) 0 (enumT 0 [(.int .i64 x0)]) S (retK E (E.fn 89)) = J89 call n x0 S := by
  rw [J89, a89_entry]
theorem F89 {o : Orc} (n : Nat) (x0 : Int) (S : AS) (ho : ∀ args, o 89 args = none) : evF E o (n + 1) (.fn 89) [(.int .i64 x0)] S = J89 (evF E o n) n x0 S := (run89 o n [(.int .i64 x0)] S (ho _)).trans (J89_eq _ _ x0 S)
def b90_entry (call : CallA) (n : Nat)  (x0 : Option Pos) (S : AS) : Option (AV × AS) :=
gO x0 fun p1 =>
ldI .u64 S p1.1 p1.2 fun v2 =>
gO x0 fun p3 =>
ldI .u64 S p3.1 p3.2 fun v4 =>
gO x0 fun p5 =>
S.stn p5.1 p5.2 [(.int .u64 (xorI .u64 v2 (shlI .u64 v4 13)))] fun S6 =>
gO x0 fun p7 =>
ldI .u64 S6 p7.1 p7.2 fun v8 =>
gO x0 fun p9 =>
ldI .u64 S6 p9.1 p9.2 fun v10 =>
gO x0 fun p11 =>
S6.stn p11.1 p11.2 [(.int .u64 (xorI .u64 v8 (shrI .u64 v10 7)))] fun S12 =>
gO x0 fun p13 =>
ldI .u64 S12 p13.1 p13.2 fun v14 =>
gO x0 fun p15 =>
ldI .u64 S12 p15.1 p15.2 fun v16 =>
gO x0 fun p17 =>
S12.stn p17.1 p17.2 [(.int .u64 (xorI .u64 v14 (shlI .u64 v16 17)))] fun S18 =>
gO x0 fun p19 =>
ldI .u64 S18 p19.1 p19.2 fun v20 =>
some ((.int .u64 v20), S18)

theorem a90_entry (call : CallA) (n : Nat) (x0 : Option Pos) (S : AS) : evC E call n 90 (E.at 90 []) 0 (enumT 0 [(.ptr x0)]) S (retK E (E.fn 90)) = b90_entry call n  x0 S := by kernel_rfl
def J90 (call : CallA) (n : Nat) (x0 : Option Pos) (S : AS) : Option (AV × AS) := b90_entry call n  x0 S
theorem run90 (o : Orc) (n : Nat) (args : List AV) (S : AS) (ho : o 90 args = none) : evF E o (n + 1) (.fn 90) args S = evC E (evF E o n) n 90 (E.at 90 []) 0 (enumT 0 args) S (retK E (E.fn 90)) := by
  rw [evF, ho]; kernel_rfl
theorem J90_eq (call : CallA) (n : Nat) (x0 : Option Pos) (S : AS) : evC E call n 90 (E.at 90 []) 0 (enumT 0 [(.ptr x0)]) S (retK E (E.fn 90)) = J90 call n x0 S := by
  rw [J90, a90_entry]
theorem F90 {o : Orc} (n : Nat) (x0 : Option Pos) (S : AS) (ho : ∀ args, o 90 args = none) : evF E o (n + 1) (.fn 90) [(.ptr x0)] S = J90 (evF E o n) n x0 S := (run90 o n [(.ptr x0)] S (ho _)).trans (J90_eq _ _ x0 S)
def b91_entry (call : CallA) (n : Nat)  (x0a : Option Pos) (x0l : Nat) (x0c : Cap) (x1 : Int) (x2 : Option Pos) (x3 : AV) (S : AS) : Option (AV × AS) :=
callI .i64 call 92 [(.sl x0a x0l x0c), (.int .i64 (IntKind.wrap .i64 (x1 - 1))), (.int .i64 x1), (.int .i64 (IntKind.wrap .i64 (x1 + 1))), (.ptr x2), x3] S fun v2 S1 =>
some ((.int .i64 v2), S1)

theorem a91_entry (call : CallA) (n : Nat) (x0a : Option Pos) (x0l : Nat) (x0c : Cap) (x1 : Int) (x2 : Option Pos) (x3 : AV) (S : AS) : evC E call n 91 (E.at 91 []) 0 (enumT 0 [(.sl x0a x0l x0c), (.int .i64 x1), (.ptr x2), x3]) S (retK E (E.fn 91)) = b91_entry call n  x0a x0l x0c x1 x2 x3 S := by kernel_rfl
def J91 (call : CallA) (n : Nat) (x0a : Option Pos) (x0l : Nat) (x0c : Cap) (x1 : Int) (x2 : Option Pos) (x3 : AV) (S : AS) : Option (AV × AS) := b91_entry call n  x0a x0l x0c x1 x2 x3 S
theorem run91 (o : Orc) (n : Nat) (args : List AV) (S : AS) (ho : o 91 args = none) : evF E o (n + 1) (.fn 91) args S = evC E (evF E o n) n 91 (E.at 91 []) 0 (enumT 0 args) S (retK E (E.fn 91)) := by
  rw [evF, ho]; kernel_rfl
theorem J91_eq (call : CallA) (n : Nat) (x0a : Option Pos) (x0l : Nat) (x0c : Cap) (x1 : Int) (x2 : Option Pos) (x3 : AV) (S : AS) : evC E call n 91 (E.at 91 []) 0 (enumT 0 [(.sl x0a x0l x0c), (.int .i64 x1), (.ptr x2), x3]) S (retK E (E.fn 91)) = J91 call n x0a x0l x0c x1 x2 x3 S := by
  rw [J91, a91_entry]
theorem F91 {o : Orc} (n : Nat) (x0a : Option Pos) (x0l : Nat) (x0c : Cap) (x1 : Int) (x2 : Option Pos) (x3 : AV) (S : AS) (ho : ∀ args, o 91 args = none) : evF E o (n + 1) (.fn 91) [(.sl x0a x0l x0c), (.int .i64 x1), (.ptr x2), x3] S = J91 (evF E o n) n x0a x0l x0c x1 x2 x3 S := (run91 o n [(.sl x0a x0l x0c), (.int .i64 x1), (.ptr x2), x3] S (ho _)).trans (J91_eq _ _ x0a x0l x0c x1 x2 x3 S)
def b92_entry (call : CallA) (n : Nat)  (x0a : Option Pos) (x0l : Nat) (x0c : Cap) (x1 : Int) (x2 : Int) (x3 : Int) (x4 : Option Pos) (x5 : AV) (S : AS) : Option (AV × AS) :=
callT call 93 [(.sl x0a x0l x0c), (.int .i64 x1), (.int .i64 x2), (.ptr x4), x5] S fun v2 S1 =>
atI .i64 v2 0 fun v3 =>
atI .i64 v2 1 fun v4 =>
callT call 93 [(.sl x0a x0l x0c), (.int .i64 v4), (.int .i64 x3), (.ptr x4), x5] S1 fun v6 S5 =>
atI .i64 v6 0 fun v7 =>
atI .i64 v6 1 fun v8 =>
callT call 93 [(.sl x0a x0l x0c), (.int .i64 v3), (.int .i64 v7), (.ptr x4), x5] S5 fun v10 S9 =>
atI .i64 v10 0 fun v11 =>
atI .i64 v10 1 fun v12 =>
some ((.int .i64 v12), S9)

theorem a92_entry (call : CallA) (n : Nat) (x0a : Option Pos) (x0l : Nat) (x0c : Cap) (x1 : Int) (x2 : Int) (x3 : Int) (x4 : Option Pos) (x5 : AV) (S : AS) : evC E call n 92 (E.at 92 []) 0 (enumT 0 [(.sl x0a x0l x0c), (.int .i64 x1), (.int .i64 x2), (.int .i64 x3), (.ptr x4), x5]) S (retK E (E.fn 92)) = b92_entry call n  x0a x0l x0c x1 x2 x3 x4 x5 S := by kernel_rfl
def J92 (call : CallA) (n : Nat) (x0a : Option Pos) (x0l : Nat) (x0c : Cap) (x1 : Int) (x2 : Int) (x3 : Int) (x4 : Option Pos) (x5 : AV) (S : AS) : Option (AV × AS) := b92_entry call n  x0a x0l x0c x1 x2 x3 x4 x5 S
theorem run92 (o : Orc) (n : Nat) (args : List AV) (S : AS) (ho : o 92 args = none) : evF E o (n + 1) (.fn 92) args S = evC E (evF E o n) n 92 (E.at 92 []) 0 (enumT 0 args) S (retK E (E.fn 92)) := by
  rw [evF, ho]; kernel_rfl
theorem J92_eq (call : CallA) (n : Nat) (x0a : Option Pos) (x0l : Nat) (x0c : Cap) (x1 : Int) (x2 : Int) (x3 : Int) (x4 : Option Pos) (x5 : AV) (S : AS) : evC E call n 92 (E.at 92 []) 0 (enumT 0 [(.sl x0a x0l x0c), (.int .i64 x1), (.int .i64 x2), (.int .i64 x3), (.ptr x4), x5]) S (retK E (E.fn 92)) = J92 call n x0a x0l x0c x1 x2 x3 x4 x5 S := by
  rw [J92, a92_entry]
theorem F92 {o : Orc} (n : Nat) (x0a : Option Pos) (x0l : Nat) (x0c : Cap) (x1 : Int) (x2 : Int) (x3 : Int) (x4 : Option Pos) (x5 : AV) (S : AS) (ho : ∀ args, o 92 args = none) : evF E o (n + 1) (.fn 92) [(.sl x0a x0l x0c), (.int .i64 x1), (.int .i64 x2), (.int .i64 x3), (.ptr x4), x5] S = J92 (evF E o n) n x0a x0l x0c x1 x2 x3 x4 x5 S := (run92 o n [(.sl x0a x0l x0c), (.int .i64 x1), (.int .i64 x2), (.int .i64 x3), (.ptr x4), x5] S (ho _)).trans (J92_eq _ _ x0a x0l x0c x1 x2 x3 x4 x5 S)
def b111_l1_0_1_0 (call : CallA) (n : Nat) (l1_0_1_0 : Option Pos → Int → AS → Option (AV × AS)) (j1_1 : Option Pos → AS → Option (AV × AS)) (w0 : Option Pos) (w3 : Int) (S : AS) : Option (AV × AS) :=
gO w0 fun p1 =>
ldL S p1.1 (p1.2 + 1) fun v2a v2l v2c =>
cond (decide (w3 < ((v2l : Nat) : Int))) (
gO w0 fun p3 =>
ldL S p3.1 p3.2 fun v4a v4l v4c =>
gO w0 fun p5 =>
ldL S p5.1 (p5.2 + 1) fun v6a v6l v6c =>
ixSl 2 v6a v6l w3 fun p7 =>
ldI .i64 S p7.1 p7.2 fun v8 =>
gO w0 fun p9 =>
ldL S p9.1 (p9.2 + 1) fun v10a v10l v10c =>
ixSl 2 v10a v10l w3 fun p11 =>
ldS S p11.1 (p11.2 + 1) fun v12 =>
ixSl 1 v4a v4l v8 fun p13 =>
S.stn p13.1 p13.2 [(.str v12)] fun S14 =>
l1_0_1_0 w0 (IntKind.wrap .i64 (w3 + 1)) S14) (
j1_1 w0 S)

def b111_j1_1 (call : CallA) (n : Nat)  (w0 : Option Pos) (S : AS) : Option (AV × AS) :=
gO w0 fun p15 =>
S.stn p15.1 (p15.2 + 1) [(.sl none 0 (.ex 0))] fun S16 =>
some ((.int .i64 0), S16)

def b111_entry (call : CallA) (n : Nat) (l1_0_1_0 : Option Pos → Int → AS → Option (AV × AS)) (x0 : Option Pos) (S : AS) : Option (AV × AS) :=
l1_0_1_0 x0 0 S

def r111_l1_0_1_0 (call : CallA) (n : Nat)  (m : Nat) (w0 : Option Pos) (w3 : Int) (S : AS) : Option (AV × AS) := loopN (evC E call n 111 (E.at 111 [1, 0, 1, 0, 0]) 0) [0, 3] m [(0, (.ptr w0)), (3, (.int .i64 w3))] S (kBlk 0 (kSeq E call n 111 (E.at 111 [1, 1]) 0 (retK E (E.fn 111))))
def r111_j1_1 (call : CallA) (n : Nat)  (w0 : Option Pos) (S : AS) : Option (AV × AS) := evC E call n 111 (E.at 111 [1, 1]) 0 [(0, (.ptr w0))] S (retK E (E.fn 111))
theorem a111_l1_0_1_0 (call : CallA) (n : Nat)  (m : Nat) (w0 : Option Pos) (w3 : Int) (S : AS) : r111_l1_0_1_0 call n  (m + 1) w0 w3 S = b111_l1_0_1_0 call n (r111_l1_0_1_0 call n  m) (r111_j1_1 call n ) w0 w3 S := by kernel_rfl
theorem a111_j1_1 (call : CallA) (n : Nat)  (w0 : Option Pos) (S : AS) : r111_j1_1 call n  w0 S = b111_j1_1 call n  w0 S := by kernel_rfl
theorem a111_entry (call : CallA) (n : Nat) (x0 : Option Pos) (S : AS) : evC E call n 111 (E.at 111 []) 0 (enumT 0 [(.ptr x0)]) S (retK E (E.fn 111)) = b111_entry call n (r111_l1_0_1_0 call n  n) x0 S := by kernel_rfl
def J111_j1_1 (call : CallA) (n : Nat)  (w0 : Option Pos) (S : AS) : Option (AV × AS) := b111_j1_1 call n  w0 S
theorem h111_j1_1 (call : CallA) (n : Nat)  : r111_j1_1 call n  = J111_j1_1 call n  := by
  funext w0 S
  rw [J111_j1_1, a111_j1_1]
def J111_l1_0_1_0 (call : CallA) (n : Nat)  (m : Nat) : Option Pos → Int → AS → Option (AV × AS) := Nat.rec (motive := fun _ => Option Pos → Int → AS → Option (AV × AS)) (fun _ _ _ => none) (fun _ ih w0 w3 S => b111_l1_0_1_0 call n ih (J111_j1_1 call n ) w0 w3 S) m
theorem J111_l1_0_1_0_succ (call : CallA) (n : Nat)  (m : Nat) (w0 : Option Pos) (w3 : Int) (S : AS) : J111_l1_0_1_0 call n  (m + 1) w0 w3 S = b111_l1_0_1_0 call n (J111_l1_0_1_0 call n  m) (J111_j1_1 call n ) w0 w3 S := rfl
theorem h111_l1_0_1_0 (call : CallA) (n : Nat)  (m : Nat) : r111_l1_0_1_0 call n  m = J111_l1_0_1_0 call n  m := by
  induction m with
  | zero => rfl
  | succ m ih =>
    funext w0 w3 S
    rw [J111_l1_0_1_0_succ, a111_l1_0_1_0, h111_j1_1 call n , ih]
def J111 (call : CallA) (n : Nat) (x0 : Option Pos) (S : AS) : Option (AV × AS) := b111_entry call n (J111_l1_0_1_0 call n  n) x0 S
theorem run111 (o : Orc) (n : Nat) (args : List AV) (S : AS) (ho : o 111 args = none) : evF E o (n + 1) (.fn 111) args S = evC E (evF E o n) n 111 (E.at 111 []) 0 (enumT 0 args) S (retK E (E.fn 111)) := by
  rw [evF, ho]; kernel_rfl
theorem J111_eq (call : CallA) (n : Nat) (x0 : Option Pos) (S : AS) : evC E call n 111 (E.at 111 []) 0 (enumT 0 [(.ptr x0)]) S (retK E (E.fn 111)) = J111 call n x0 S := by
  rw [J111, a111_entry, h111_l1_0_1_0 call n  n]
theorem F111 {o : Orc} (n : Nat) (x0 : Option Pos) (S : AS) (ho : ∀ args, o 111 args = none) : evF E o (n + 1) (.fn 111) [(.ptr x0)] S = J111 (evF E o n) n x0 S := (run111 o n [(.ptr x0)] S (ho _)).trans (J111_eq _ _ x0 S)
def b112_entry (call : CallA) (n : Nat)  (x0 : Option Pos) (S : AS) : Option (AV × AS) :=
gO x0 fun p1 =>
ldL S p1.1 p1.2 fun v2a v2l v2c =>
some ((.int .i64 ((v2l : Nat) : Int)), S)

theorem a112_entry (call : CallA) (n : Nat) (x0 : Option Pos) (S : AS) : evC E call n 112 (E.at 112 []) 0 (enumT 0 [(.ptr x0)]) S (retK E (E.fn 112)) = b112_entry call n  x0 S := by kernel_rfl
def J112 (call : CallA) (n : Nat) (x0 : Option Pos) (S : AS) : Option (AV × AS) := b112_entry call n  x0 S
theorem run112 (o : Orc) (n : Nat) (args : List AV) (S : AS) (ho : o 112 args = none) : evF E o (n + 1) (.fn 112) args S = evC E (evF E o n) n 112 (E.at 112 []) 0 (enumT 0 args) S (retK E (E.fn 112)) := by
  rw [evF, ho]; kernel_rfl
theorem J112_eq (call : CallA) (n : Nat) (x0 : Option Pos) (S : AS) : evC E call n 112 (E.at 112 []) 0 (enumT 0 [(.ptr x0)]) S (retK E (E.fn 112)) = J112 call n x0 S := by
  rw [J112, a112_entry]
theorem F112 {o : Orc} (n : Nat) (x0 : Option Pos) (S : AS) (ho : ∀ args, o 112 args = none) : evF E o (n + 1) (.fn 112) [(.ptr x0)] S = J112 (evF E o n) n x0 S := (run112 o n [(.ptr x0)] S (ho _)).trans (J112_eq _ _ x0 S)
end
end Go.Na
