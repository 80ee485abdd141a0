/- Plain readings of the functions, and that they are what the evaluator does: by program. -/
import Derived.Test.YtefpcbcbjnfhnaaGrRes
import Derived.Test.YtefpcbcbjnfhnaaENV
import Derived.KernelRfl
set_option maxRecDepth 100000
set_option linter.unusedVariables false
namespace Go.Jn
open Go.Gr
noncomputable section
def b14_l1_1_1_0_1_0 (call : CallA) (n : Nat)  (l1_1_1_0_1_0 : Option Pos → Nat → Cap → Option Pos → Nat → Cap → Int → Option Pos → Nat → Cap → Int → AS → Option (AV × AS)) (j1_1_1_1 : Option Pos → Nat → Cap → AS → Option (AV × AS)) (w0a : Option Pos) (w0l : Nat) (w0c : Cap) (w2a : Option Pos) (w2l : Nat) (w2c : Cap) (w3 : Int) (w4a : Option Pos) (w4l : Nat) (w4c : Cap) (w5 : Int) (S : AS) : Option (AV × AS) :=
 cond (decide (w5 < ((w0l : Nat) : Int))) (
 ixSl 2 w0a w0l w5 fun p3 =>
 ldI .i64 S p3.1 p3.2 fun v4 =>
 cond (decide (v4 < 0)) (
 some (.tup [(.sl none 0 (.ex 0)), (.int .i64 82)], S)) (
 ixSl 2 w0a w0l w5 fun p5 =>
 ldI .i64 S p5.1 p5.2 fun v6 =>
 cond (decide (v6 > 2147483647)) (
 some (.tup [(.sl none 0 (.ex 0)), (.int .i64 82)], S)) (
 ixSl 2 w0a w0l w5 fun p7 =>
 ldL S p7.1 (p7.2 + 1) fun v8a v8l v8c =>
 cond (((v8l : Nat) : Int) != 384) (
 some (.tup [(.sl none 0 (.ex 0)), (.int .i64 82)], S)) (
 ixSl 2 w0a w0l w5 fun p9 =>
 ldI .i64 S p9.1 p9.2 fun v10 =>
 callL call 42 [(.sl w4a w4l w4c), (.int .u64 (IntKind.wrap .u64 v10)), (.int .i64 4)] S fun v12a v12l v12c S11 =>
 ixSl 2 w0a w0l w5 fun p13 =>
 ldL S11 p13.1 (p13.2 + 1) fun v14a v14l v14c =>
 ldL S p13.1 (p13.2 + 1) fun v15a v15l v15c =>
 cond (AV.beq (.sl v15a v15l v15c) (.sl v14a v14l v14c)) (
 appendA 1 1 S11 v12a v12l v12c v14l (firstA S11 1 v14l (.sl v14a v14l v14c)) fun v16a v16l v16c S17 =>
 l1_1_1_0_1_0 w0a w0l w0c w2a w2l w2c w3 v16a v16l v16c (IntKind.wrap .i64 (w5 + 1)) S17) none)))) (
 j1_1_1_1 w4a w4l w4c S)

def b14_j1_1_1_1 (call : CallA) (n : Nat)   (w4a : Option Pos) (w4l : Nat) (w4c : Cap) (S : AS) : Option (AV × AS) :=
 some (.tup [(.sl w4a w4l w4c), (.int .i64 0)], S)

def b14_entry (call : CallA) (n : Nat)  (l1_1_1_0_1_0 : Option Pos → Nat → Cap → Option Pos → Nat → Cap → Int → Option Pos → Nat → Cap → Int → AS → Option (AV × AS)) (x0a : Option Pos) (x0l : Nat) (x0c : Cap) (S : AS) : Option (AV × AS) :=
 cond (decide (((x0l : Nat) : Int) < 1)) (
 some (.tup [(.sl none 0 (.ex 0)), (.int .i64 82)], S)) (
 cond (decide (((x0l : Nat) : Int) > 64)) (
 some (.tup [(.sl none 0 (.ex 0)), (.int .i64 82)], S)) (
 callL call 42 [(.sl none 0 (.ex 0)), (.int .u64 (IntKind.wrap .u64 ((x0l : Nat) : Int))), (.int .i64 4)] S fun v2a v2l v2c S1 =>
 l1_1_1_0_1_0 x0a x0l x0c none 0 (.ex 0) 0 v2a v2l v2c 0 S1))

def r14_l1_1_1_0_1_0 (call : CallA) (n : Nat)  (m : Nat) (w0a : Option Pos) (w0l : Nat) (w0c : Cap) (w2a : Option Pos) (w2l : Nat) (w2c : Cap) (w3 : Int) (w4a : Option Pos) (w4l : Nat) (w4c : Cap) (w5 : Int) (S : AS) : Option (AV × AS) := loopN (evC E call n 14 (E.at 14 [1, 1, 1, 0, 1, 0, 0]) 0) [0, 2, 3, 4, 5] m [(0, (.sl w0a w0l w0c)), (2, (.sl w2a w2l w2c)), (3, (.int .i64 w3)), (4, (.sl w4a w4l w4c)), (5, (.int .i64 w5))] S (kBlk 0 (kSeq E call n 14 (E.at 14 [1, 1, 1, 1]) 0 (retK E (E.fn 14))))
def r14_j1_1_1_1 (call : CallA) (n : Nat)  (w4a : Option Pos) (w4l : Nat) (w4c : Cap) (S : AS) : Option (AV × AS) := evC E call n 14 (E.at 14 [1, 1, 1, 1]) 0 [(4, (.sl w4a w4l w4c))] S (retK E (E.fn 14))
theorem a14_l1_1_1_0_1_0 (call : CallA) (n : Nat)  (m : Nat) (w0a : Option Pos) (w0l : Nat) (w0c : Cap) (w2a : Option Pos) (w2l : Nat) (w2c : Cap) (w3 : Int) (w4a : Option Pos) (w4l : Nat) (w4c : Cap) (w5 : Int) (S : AS) : r14_l1_1_1_0_1_0 call n  (m + 1) w0a w0l w0c w2a w2l w2c w3 w4a w4l w4c w5 S = b14_l1_1_1_0_1_0 call n (r14_l1_1_1_0_1_0 call n  m) (r14_j1_1_1_1 call n ) w0a w0l w0c w2a w2l w2c w3 w4a w4l w4c w5 S := by kernel_rfl
theorem a14_j1_1_1_1 (call : CallA) (n : Nat)  (w4a : Option Pos) (w4l : Nat) (w4c : Cap) (S : AS) : r14_j1_1_1_1 call n  w4a w4l w4c S = b14_j1_1_1_1 call n  w4a w4l w4c S := by kernel_rfl
theorem a14_entry (call : CallA) (n : Nat) (x0a : Option Pos) (x0l : Nat) (x0c : Cap) (S : AS) : evC E call n 14 (E.at 14 []) 0 (enumT 0 [(.sl x0a x0l x0c)]) S (retK E (E.fn 14)) = b14_entry call n (r14_l1_1_1_0_1_0 call n  n) x0a x0l x0c S := by kernel_rfl
def J14_j1_1_1_1 (call : CallA) (n : Nat)  (w4a : Option Pos) (w4l : Nat) (w4c : Cap) (S : AS) : Option (AV × AS) := b14_j1_1_1_1 call n  w4a w4l w4c S
theorem h14_j1_1_1_1 (call : CallA) (n : Nat)  : r14_j1_1_1_1 call n  = J14_j1_1_1_1 call n  := by
  funext w4a w4l w4c S
  rw [J14_j1_1_1_1, a14_j1_1_1_1]
def J14_l1_1_1_0_1_0 (call : CallA) (n : Nat)  (m : Nat) : Option Pos → Nat → Cap → Option Pos → Nat → Cap → Int → Option Pos → Nat → Cap → Int → AS → Option (AV × AS) := Nat.rec (motive := fun _ => Option Pos → Nat → Cap → Option Pos → Nat → Cap → Int → Option Pos → Nat → Cap → Int → AS → Option (AV × AS)) (fun _ _ _ _ _ _ _ _ _ _ _ _ => none) (fun mK ih w0a w0l w0c w2a w2l w2c w3 w4a w4l w4c w5 S => b14_l1_1_1_0_1_0 call n ih (J14_j1_1_1_1 call n ) w0a w0l w0c w2a w2l w2c w3 w4a w4l w4c w5 S) m
theorem J14_l1_1_1_0_1_0_succ (call : CallA) (n : Nat)  (m : Nat) (w0a : Option Pos) (w0l : Nat) (w0c : Cap) (w2a : Option Pos) (w2l : Nat) (w2c : Cap) (w3 : Int) (w4a : Option Pos) (w4l : Nat) (w4c : Cap) (w5 : Int) (S : AS) : J14_l1_1_1_0_1_0 call n  (m + 1) w0a w0l w0c w2a w2l w2c w3 w4a w4l w4c w5 S = b14_l1_1_1_0_1_0 call n (J14_l1_1_1_0_1_0 call n  m) (J14_j1_1_1_1 call n ) w0a w0l w0c w2a w2l w2c w3 w4a w4l w4c w5 S := rfl
theorem h14_l1_1_1_0_1_0 (call : CallA) (n : Nat)  (m : Nat) : r14_l1_1_1_0_1_0 call n  m = J14_l1_1_1_0_1_0 call n  m := by
  induction m with
  | zero => rfl
  | succ m ih =>
    funext w0a w0l w0c w2a w2l w2c w3 w4a w4l w4c w5 S
    rw [J14_l1_1_1_0_1_0_succ, a14_l1_1_1_0_1_0, h14_j1_1_1_1 call n , ih]
def J14 (call : CallA) (n : Nat) (x0a : Option Pos) (x0l : Nat) (x0c : Cap) (S : AS) : Option (AV × AS) := b14_entry call n (J14_l1_1_1_0_1_0 call n  n) x0a x0l x0c S
theorem run14 (o : Orc) (n : Nat) (args : List AV) (S : AS) (ho : o 14 args = none) : evF E o (n + 1) (.fn 14) args S = evC E (evF E o n) n 14 (E.at 14 []) 0 (enumT 0 args) S (retK E (E.fn 14)) := by
  rw [evF, ho]; kernel_rfl
theorem J14_eq (call : CallA) (n : Nat) (x0a : Option Pos) (x0l : Nat) (x0c : Cap) (S : AS) : evC E call n 14 (E.at 14 []) 0 (enumT 0 [(.sl x0a x0l x0c)]) S (retK E (E.fn 14)) = J14 call n x0a x0l x0c S := by
  rw [J14, a14_entry, h14_l1_1_1_0_1_0 call n  n]
theorem F14 {o : Orc} (n : Nat) (x0a : Option Pos) (x0l : Nat) (x0c : Cap) (S : AS) (ho : ∀ args, o 14 args = none) : evF E o (n + 1) (.fn 14) [(.sl x0a x0l x0c)] S = J14 (evF E o n) n x0a x0l x0c S := (run14 o n [(.sl x0a x0l x0c)] S (ho _)).trans (J14_eq _ _ x0a x0l x0c S)
def b15_entry (call : CallA) (n : Nat)   (x0 : Int) (S : AS) : Option (AV × AS) :=
 some ((.int .i64 x0), S)

theorem a15_entry (call : CallA) (n : Nat) (x0 : Int) (S : AS) : evC E call n 15 (E.at 15 []) 0 (enumT 0 [(.int .i64 x0)]) S (retK E (E.fn 15)) = b15_entry call n  x0 S := by kernel_rfl
def J15 (call : CallA) (n : Nat) (x0 : Int) (S : AS) : Option (AV × AS) := b15_entry call n  x0 S
theorem run15 (o : Orc) (n : Nat) (args : List AV) (S : AS) (ho : o 15 args = none) : evF E o (n + 1) (.fn 15) args S = evC E (evF E o n) n 15 (E.at 15 []) 0 (enumT 0 args) S (retK E (E.fn 15)) := by
  rw [evF, ho]; kernel_rfl
theorem J15_eq (call : CallA) (n : Nat) (x0 : Int) (S : AS) : evC E call n 15 (E.at 15 []) 0 (enumT 0 [(.int .i64 x0)]) S (retK E (E.fn 15)) = J15 call n x0 S := by
  rw [J15, a15_entry]
theorem F15 {o : Orc} (n : Nat) (x0 : Int) (S : AS) (ho : ∀ args, o 15 args = none) : evF E o (n + 1) (.fn 15) [(.int .i64 x0)] S = J15 (evF E o n) n x0 S := (run15 o n [(.int .i64 x0)] S (ho _)).trans (J15_eq _ _ x0 S)
def b16_entry (call : CallA) (n : Nat)   (x0 : Int) (S : AS) : Option (AV × AS) :=
 cond (decide (x0 < 1)) (
 some ((.int .i64 0), S)) (
 cond (decide (x0 > 64)) (
 some ((.int .i64 0), S)) (
 some ((.int .i64 (IntKind.wrap .i64 (Int.tdiv (IntKind.wrap .i64 ((IntKind.wrap .i64 ((IntKind.wrap .i64 (4 + (IntKind.wrap .i64 (x0 * 388)))) + 336)) - 1)) 336))), S)))

theorem a16_entry (call : CallA) (n : Nat) (x0 : Int) (S : AS) : evC E call n 16 (E.at 16 []) 0 (enumT 0 [(.int .i64 x0)]) S (retK E (E.fn 16)) = b16_entry call n  x0 S := by kernel_rfl
def J16 (call : CallA) (n : Nat) (x0 : Int) (S : AS) : Option (AV × AS) := b16_entry call n  x0 S
theorem run16 (o : Orc) (n : Nat) (args : List AV) (S : AS) (ho : o 16 args = none) : evF E o (n + 1) (.fn 16) args S = evC E (evF E o n) n 16 (E.at 16 []) 0 (enumT 0 args) S (retK E (E.fn 16)) := by
  rw [evF, ho]; kernel_rfl
theorem J16_eq (call : CallA) (n : Nat) (x0 : Int) (S : AS) : evC E call n 16 (E.at 16 []) 0 (enumT 0 [(.int .i64 x0)]) S (retK E (E.fn 16)) = J16 call n x0 S := by
  rw [J16, a16_entry]
theorem F16 {o : Orc} (n : Nat) (x0 : Int) (S : AS) (ho : ∀ args, o 16 args = none) : evF E o (n + 1) (.fn 16) [(.int .i64 x0)] S = J16 (evF E o n) n x0 S := (run16 o n [(.int .i64 x0)] S (ho _)).trans (J16_eq _ _ x0 S)
def b17_entry (call : CallA) (n : Nat)   (x0 : Int) (S : AS) : Option (AV × AS) :=
 cond (decide (x0 < 1)) (
 some ((.int .i64 0), S)) (
 cond (decide (x0 > 64)) (
 some ((.int .i64 0), S)) (
 some ((.int .i64 (IntKind.wrap .i64 (Int.tdiv (IntKind.wrap .i64 ((IntKind.wrap .i64 ((IntKind.wrap .i64 (4 + (IntKind.wrap .i64 (388 * x0)))) + 336)) - 1)) 336))), S)))

theorem a17_entry (call : CallA) (n : Nat) (x0 : Int) (S : AS) : evC E call n 17 (E.at 17 []) 0 (enumT 0 [(.int .i64 x0)]) S (retK E (E.fn 17)) = b17_entry call n  x0 S := by kernel_rfl
def J17 (call : CallA) (n : Nat) (x0 : Int) (S : AS) : Option (AV × AS) := b17_entry call n  x0 S
theorem run17 (o : Orc) (n : Nat) (args : List AV) (S : AS) (ho : o 17 args = none) : evF E o (n + 1) (.fn 17) args S = evC E (evF E o n) n 17 (E.at 17 []) 0 (enumT 0 args) S (retK E (E.fn 17)) := by
  rw [evF, ho]; kernel_rfl
theorem J17_eq (call : CallA) (n : Nat) (x0 : Int) (S : AS) : evC E call n 17 (E.at 17 []) 0 (enumT 0 [(.int .i64 x0)]) S (retK E (E.fn 17)) = J17 call n x0 S := by
  rw [J17, a17_entry]
theorem F17 {o : Orc} (n : Nat) (x0 : Int) (S : AS) (ho : ∀ args, o 17 args = none) : evF E o (n + 1) (.fn 17) [(.int .i64 x0)] S = J17 (evF E o n) n x0 S := (run17 o n [(.int .i64 x0)] S (ho _)).trans (J17_eq _ _ x0 S)
def b18_entry (call : CallA) (n : Nat)   (x0a : Option Pos) (x0l : Nat) (x0c : Cap) (S : AS) : Option (AV × AS) :=
 newA S (.cells [(.int .u64 0), (.int .u64 0), (.int .u64 0), (.int .u64 0), (.int .i64 0), (.int .i64 0), (.sl none 0 (.ex 0))]) fun b1 S2 =>
 cond (((x0l : Nat) : Int) != 384) (
 S2.stn (.rw b1) 0 [(.int .u64 0), (.int .u64 0), (.int .u64 0), (.int .u64 0), (.int .i64 0), (.int .i64 0), (.sl none 0 (.ex 0))] fun S3 =>
 S3.ldn (.rw b1) 0 7 fun g4 =>
 some (.tup [(.agg g4), (.int .i64 81)], S3)) (
 slSl 1 x0a x0l x0c (some 40) (some 42) none fun v5a v5l v5c =>
 callI .u64 call 44 [(.sl v5a v5l v5c)] S2 fun v7 S6 =>
 drawA S6 28 fun b8 S9 =>
 slSl 1 x0a x0l x0c (some 4) (some 12) none fun v10a v10l v10c =>
 callI .u64 call 44 [(.sl v10a v10l v10c)] S9 fun v12 S11 =>
 slSl 1 x0a x0l x0c (some 12) (some 20) none fun v13a v13l v13c =>
 callI .u64 call 44 [(.sl v13a v13l v13c)] S11 fun v15 S14 =>
 slSl 1 x0a x0l x0c (some 20) (some 28) none fun v16a v16l v16c =>
 callI .u64 call 44 [(.sl v16a v16l v16c)] S14 fun v18 S17 =>
 slSl 1 x0a x0l x0c (some 28) (some 36) none fun v19a v19l v19c =>
 callI .u64 call 44 [(.sl v19a v19l v19c)] S17 fun v21 S20 =>
 slSl 1 x0a x0l x0c (some 36) (some 38) none fun v22a v22l v22c =>
 callI .u64 call 44 [(.sl v22a v22l v22c)] S20 fun v24 S23 =>
 slSl 1 x0a x0l x0c (some 38) (some 40) none fun v25a v25l v25c =>
 callI .u64 call 44 [(.sl v25a v25l v25c)] S23 fun v27 S26 =>
 slSl 1 x0a x0l x0c (some 48) (some (IntKind.wrap .i64 (48 + (if 336 < (IntKind.wrap .i64 v7) then 336 else (IntKind.wrap .i64 v7))))) none fun v28a v28l v28c =>
 callL call 45 [(.sl v28a v28l v28c)] S26 fun v30a v30l v30c S29 =>
 layA S29 (b8 + 26) (.cells [(.int .u64 0), (.int .u64 0), (.int .u64 0), (.int .u64 0), (.int .i64 0), (.int .i64 0), (.sl none 0 (.ex 0))]) fun S31 =>
 S31.stn (.rw (b8 + 26)) 0 [(.int .u64 v12), (.int .u64 v15), (.int .u64 v18), (.int .u64 v21), (.int .i64 (IntKind.wrap .i64 v24)), (.int .i64 (IntKind.wrap .i64 v27)), (.sl v30a v30l v30c)] fun S32 =>
 S32.ldn (.rw (b8 + 26)) 0 7 fun g33 =>
 callT call 8 [(.agg g33)] S32 fun v35 S34 =>
 atL v35 0 fun v36a v36l v36c =>
 atI .i64 v35 1 fun v37 =>
 cond (v37 != 0) (
 S34.stn (.rw b1) 0 [(.int .u64 0), (.int .u64 0), (.int .u64 0), (.int .u64 0), (.int .i64 0), (.int .i64 0), (.sl none 0 (.ex 0))] fun S38 =>
 S38.ldn (.rw b1) 0 7 fun g39 =>
 some (.tup [(.agg g39), (.int .i64 81)], S38)) (
 callB call 46 [(.sl v36a v36l v36c), (.sl x0a x0l x0c)] S34 fun v41 S40 =>
 cond (!v41) (
 S40.stn (.rw b1) 0 [(.int .u64 0), (.int .u64 0), (.int .u64 0), (.int .u64 0), (.int .i64 0), (.int .i64 0), (.sl none 0 (.ex 0))] fun S42 =>
 S42.ldn (.rw b1) 0 7 fun g43 =>
 some (.tup [(.agg g43), (.int .i64 81)], S42)) (
 S40.ldn (.rw (b8 + 26)) 0 7 fun g44 =>
 ifO (g44.length = 7) <|
 S40.stn (.rw b1) 0 g44 fun S45 =>
 S45.ldn (.rw b1) 0 7 fun g46 =>
 some (.tup [(.agg g46), (.int .i64 0)], S45))))

theorem a18_entry (call : CallA) (n : Nat) (x0a : Option Pos) (x0l : Nat) (x0c : Cap) (S : AS) : evC E call n 18 (E.at 18 []) 0 (enumT 0 [(.sl x0a x0l x0c)]) S (retK E (E.fn 18)) = b18_entry call n  x0a x0l x0c S := by kernel_rfl
def J18 (call : CallA) (n : Nat) (x0a : Option Pos) (x0l : Nat) (x0c : Cap) (S : AS) : Option (AV × AS) := b18_entry call n  x0a x0l x0c S
theorem run18 (o : Orc) (n : Nat) (args : List AV) (S : AS) (ho : o 18 args = none) : evF E o (n + 1) (.fn 18) args S = evC E (evF E o n) n 18 (E.at 18 []) 0 (enumT 0 args) S (retK E (E.fn 18)) := by
  rw [evF, ho]; kernel_rfl
theorem J18_eq (call : CallA) (n : Nat) (x0a : Option Pos) (x0l : Nat) (x0c : Cap) (S : AS) : evC E call n 18 (E.at 18 []) 0 (enumT 0 [(.sl x0a x0l x0c)]) S (retK E (E.fn 18)) = J18 call n x0a x0l x0c S := by
  rw [J18, a18_entry]
theorem F18 {o : Orc} (n : Nat) (x0a : Option Pos) (x0l : Nat) (x0c : Cap) (S : AS) (ho : ∀ args, o 18 args = none) : evF E o (n + 1) (.fn 18) [(.sl x0a x0l x0c)] S = J18 (evF E o n) n x0a x0l x0c S := (run18 o n [(.sl x0a x0l x0c)] S (ho _)).trans (J18_eq _ _ x0a x0l x0c S)
def b19_entry (call : CallA) (n : Nat)   (x0a : Option Pos) (x0l : Nat) (x0c : Cap) (S : AS) : Option (AV × AS) :=
 newA S (.cells [(.int .u64 0), (.int .u64 0), (.int .u64 0), (.int .u64 0), (.int .i64 0), (.int .i64 0), (.sl none 0 (.ex 0))]) fun b1 S2 =>
 cond (((x0l : Nat) : Int) != 384) (
 S2.stn (.rw b1) 0 [(.int .u64 0), (.int .u64 0), (.int .u64 0), (.int .u64 0), (.int .i64 0), (.int .i64 0), (.sl none 0 (.ex 0))] fun S3 =>
 S3.ldn (.rw b1) 0 7 fun g4 =>
 some (.tup [(.agg g4), (.int .i64 81)], S3)) (
 callI .u64 call 47 [(.sl x0a x0l x0c), (.int .i64 40), (.int .i64 2)] S2 fun v6 S5 =>
 cond (decide ((IntKind.wrap .i64 v6) > 336)) (
 S5.stn (.rw b1) 0 [(.int .u64 0), (.int .u64 0), (.int .u64 0), (.int .u64 0), (.int .i64 0), (.int .i64 0), (.sl none 0 (.ex 0))] fun S7 =>
 S7.ldn (.rw b1) 0 7 fun g8 =>
 some (.tup [(.agg g8), (.int .i64 81)], S7)) (
 drawA S5 23 fun b9 S10 =>
 callI .u64 call 47 [(.sl x0a x0l x0c), (.int .i64 4), (.int .i64 8)] S10 fun v12 S11 =>
 callI .u64 call 47 [(.sl x0a x0l x0c), (.int .i64 12), (.int .i64 8)] S11 fun v14 S13 =>
 callI .u64 call 47 [(.sl x0a x0l x0c), (.int .i64 20), (.int .i64 8)] S13 fun v16 S15 =>
 callI .u64 call 47 [(.sl x0a x0l x0c), (.int .i64 28), (.int .i64 8)] S15 fun v18 S17 =>
 callI .u64 call 47 [(.sl x0a x0l x0c), (.int .i64 36), (.int .i64 2)] S17 fun v20 S19 =>
 callI .u64 call 47 [(.sl x0a x0l x0c), (.int .i64 38), (.int .i64 2)] S19 fun v22 S21 =>
 slSl 1 x0a x0l x0c (some 48) (some (IntKind.wrap .i64 (48 + (IntKind.wrap .i64 v6)))) none fun v23a v23l v23c =>
 layA S21 (b9 + 14) (.cells []) fun S24 =>
 appendA 1 1 S24 (some (.rw (b9 + 14), 0)) 0 (.ex 0) v23l (firstA S24 1 v23l (.sl v23a v23l v23c)) fun v25a v25l v25c S26 =>
 layA S26 (b9 + 21) (.cells [(.int .u64 0), (.int .u64 0), (.int .u64 0), (.int .u64 0), (.int .i64 0), (.int .i64 0), (.sl none 0 (.ex 0))]) fun S27 =>
 S27.stn (.rw (b9 + 21)) 0 [(.int .u64 v12), (.int .u64 v14), (.int .u64 v16), (.int .u64 v18), (.int .i64 (IntKind.wrap .i64 v20)), (.int .i64 (IntKind.wrap .i64 v22)), (.sl v25a v25l v25c)] fun S28 =>
 S28.ldn (.rw (b9 + 21)) 0 7 fun g29 =>
 callT call 9 [(.agg g29)] S28 fun v31 S30 =>
 atL v31 0 fun v32a v32l v32c =>
 atI .i64 v31 1 fun v33 =>
 cond (v33 != 0) (
 S30.stn (.rw b1) 0 [(.int .u64 0), (.int .u64 0), (.int .u64 0), (.int .u64 0), (.int .i64 0), (.int .i64 0), (.sl none 0 (.ex 0))] fun S34 =>
 S34.ldn (.rw b1) 0 7 fun g35 =>
 some (.tup [(.agg g35), (.int .i64 81)], S34)) (
 bytesStr S30 v32a v32l fun s36 =>
 bytesStr S30 x0a x0l fun s37 =>
 cond (!(s36 == s37)) (
 S30.stn (.rw b1) 0 [(.int .u64 0), (.int .u64 0), (.int .u64 0), (.int .u64 0), (.int .i64 0), (.int .i64 0), (.sl none 0 (.ex 0))] fun S38 =>
 S38.ldn (.rw b1) 0 7 fun g39 =>
 some (.tup [(.agg g39), (.int .i64 81)], S38)) (
 S30.ldn (.rw (b9 + 21)) 0 7 fun g40 =>
 ifO (g40.length = 7) <|
 S30.stn (.rw b1) 0 g40 fun S41 =>
 S41.ldn (.rw b1) 0 7 fun g42 =>
 some (.tup [(.agg g42), (.int .i64 0)], S41)))))

theorem a19_entry (call : CallA) (n : Nat) (x0a : Option Pos) (x0l : Nat) (x0c : Cap) (S : AS) : evC E call n 19 (E.at 19 []) 0 (enumT 0 [(.sl x0a x0l x0c)]) S (retK E (E.fn 19)) = b19_entry call n  x0a x0l x0c S := by kernel_rfl
def J19 (call : CallA) (n : Nat) (x0a : Option Pos) (x0l : Nat) (x0c : Cap) (S : AS) : Option (AV × AS) := b19_entry call n  x0a x0l x0c S
theorem run19 (o : Orc) (n : Nat) (args : List AV) (S : AS) (ho : o 19 args = none) : evF E o (n + 1) (.fn 19) args S = evC E (evF E o n) n 19 (E.at 19 []) 0 (enumT 0 args) S (retK E (E.fn 19)) := by
  rw [evF, ho]; kernel_rfl
theorem J19_eq (call : CallA) (n : Nat) (x0a : Option Pos) (x0l : Nat) (x0c : Cap) (S : AS) : evC E call n 19 (E.at 19 []) 0 (enumT 0 [(.sl x0a x0l x0c)]) S (retK E (E.fn 19)) = J19 call n x0a x0l x0c S := by
  rw [J19, a19_entry]
theorem F19 {o : Orc} (n : Nat) (x0a : Option Pos) (x0l : Nat) (x0c : Cap) (S : AS) (ho : ∀ args, o 19 args = none) : evF E o (n + 1) (.fn 19) [(.sl x0a x0l x0c)] S = J19 (evF E o n) n x0a x0l x0c S := (run19 o n [(.sl x0a x0l x0c)] S (ho _)).trans (J19_eq _ _ x0a x0l x0c S)
def b20_l1_1_1_0_1_0 (call : CallA) (n : Nat)  (l1_1_1_0_1_0 : Option Pos → Nat → Cap → Option Pos → Option Pos → Int → AS → Option (AV × AS)) (j1_1_1_1 : Option Pos → Nat → Cap → Option Pos → Option Pos → AS → Option (AV × AS)) (w0a : Option Pos) (w0l : Nat) (w0c : Cap) (w2 : Option Pos) (w4 : Option Pos) (w13 : Int) (S : AS) : Option (AV × AS) :=
 cond (decide (w13 < 6)) (
 slSl 1 w0a w0l w0c (some (IntKind.wrap .i64 (4 + (IntKind.wrap .i64 (8 * w13))))) (some (IntKind.wrap .i64 (12 + (IntKind.wrap .i64 (8 * w13))))) none fun v7a v7l v7c =>
 callI .u64 call 44 [(.sl v7a v7l v7c)] S fun v9 S8 =>
 gO w4 fun p11 =>
 ixArr 1 p11 6 w13 fun p10 =>
 S8.stn p10.1 p10.2 [(.int .u64 v9)] fun S12 =>
 l1_1_1_0_1_0 w0a w0l w0c w2 w4 (IntKind.wrap .i64 (w13 + 1)) S12) (
 j1_1_1_1 w0a w0l w0c w2 w4 S)

def b20_j1_1_1_1 (call : CallA) (n : Nat)   (w0a : Option Pos) (w0l : Nat) (w0c : Cap) (w2 : Option Pos) (w4 : Option Pos) (S : AS) : Option (AV × AS) :=
 gO w4 fun p14 =>
 ixArr 1 p14 6 0 fun p13 =>
 ldI .u64 S p13.1 p13.2 fun v15 =>
 gO w4 fun p17 =>
 ixArr 1 p17 6 1 fun p16 =>
 ldI .u64 S p16.1 p16.2 fun v18 =>
 gO w4 fun p20 =>
 ixArr 1 p20 6 2 fun p19 =>
 ldI .u64 S p19.1 p19.2 fun v21 =>
 gO w4 fun p23 =>
 ixArr 1 p23 6 3 fun p22 =>
 ldI .u64 S p22.1 p22.2 fun v24 =>
 gO w4 fun p26 =>
 ixArr 1 p26 6 4 fun p25 =>
 ldI .u64 S p25.1 p25.2 fun v27 =>
 gO w4 fun p29 =>
 ixArr 1 p29 6 5 fun p28 =>
 ldI .u64 S p28.1 p28.2 fun v30 =>
 newA S (.cells [(.int .u64 0), (.int .u64 0), (.int .u64 0), (.int .u64 0), (.int .u64 0), (.int .u64 0)]) fun b31 S32 =>
 S32.stn (.rw b31) 0 [(.int .u64 v15), (.int .u64 v18), (.int .u64 v21), (.int .u64 v24), (.int .u64 v27), (.int .u64 v30)] fun S33 =>
 S33.ldn (.rw b31) 0 6 fun g34 =>
 callT call 10 [(.agg g34)] S33 fun v36 S35 =>
 atL v36 0 fun v37a v37l v37c =>
 atI .i64 v36 1 fun v38 =>
 cond (v38 != 0) (
 gO w2 fun p40 =>
 S35.stn p40.1 p40.2 [(.int .u64 0), (.int .u64 0), (.int .u64 0), (.int .u64 0), (.int .u64 0), (.int .u64 0)] fun S39 =>
 gO w2 fun p41 =>
 S39.ldn p41.1 p41.2 6 fun g42 =>
 some (.tup [(.agg g42), (.int .i64 81)], S39)) (
 callB call 46 [(.sl v37a v37l v37c), (.sl w0a w0l w0c)] S35 fun v44 S43 =>
 cond (!v44) (
 gO w2 fun p46 =>
 S43.stn p46.1 p46.2 [(.int .u64 0), (.int .u64 0), (.int .u64 0), (.int .u64 0), (.int .u64 0), (.int .u64 0)] fun S45 =>
 gO w2 fun p47 =>
 S45.ldn p47.1 p47.2 6 fun g48 =>
 some (.tup [(.agg g48), (.int .i64 81)], S45)) (
 S43.ldn (.rw b31) 0 6 fun g49 =>
 gO w2 fun p51 =>
 ifO (g49.length = 6) <|
 S43.stn p51.1 p51.2 g49 fun S50 =>
 gO w2 fun p52 =>
 S50.ldn p52.1 p52.2 6 fun g53 =>
 some (.tup [(.agg g53), (.int .i64 0)], S50)))

def b20_entry (call : CallA) (n : Nat)  (l1_1_1_0_1_0 : Option Pos → Nat → Cap → Option Pos → Option Pos → Int → AS → Option (AV × AS)) (x0a : Option Pos) (x0l : Nat) (x0c : Cap) (S : AS) : Option (AV × AS) :=
 newA S (.cells [(.int .u64 0), (.int .u64 0), (.int .u64 0), (.int .u64 0), (.int .u64 0), (.int .u64 0)]) fun b1 S2 =>
 cond (((x0l : Nat) : Int) != 384) (
 S2.stn (.rw b1) 0 [(.int .u64 0), (.int .u64 0), (.int .u64 0), (.int .u64 0), (.int .u64 0), (.int .u64 0)] fun S3 =>
 S3.ldn (.rw b1) 0 6 fun g4 =>
 some (.tup [(.agg g4), (.int .i64 81)], S3)) (
 newA S2 (.cells [(.int .u64 0), (.int .u64 0), (.int .u64 0), (.int .u64 0), (.int .u64 0), (.int .u64 0)]) fun b5 S6 =>
 l1_1_1_0_1_0 x0a x0l x0c (some ((.rw b1), 0)) (some ((.rw b5), 0)) 0 S6)

def r20_l1_1_1_0_1_0 (call : CallA) (n : Nat)  (m : Nat) (w0a : Option Pos) (w0l : Nat) (w0c : Cap) (w2 : Option Pos) (w4 : Option Pos) (w13 : Int) (S : AS) : Option (AV × AS) := loopN (evC E call n 20 (E.at 20 [1, 1, 1, 0, 1, 0, 0]) 0) [0, 2, 4, 13] m [(0, (.sl w0a w0l w0c)), (2, (.ptr w2)), (4, (.ptr w4)), (13, (.int .i64 w13))] S (kBlk 0 (kSeq E call n 20 (E.at 20 [1, 1, 1, 1]) 0 (retK E (E.fn 20))))
def r20_j1_1_1_1 (call : CallA) (n : Nat)  (w0a : Option Pos) (w0l : Nat) (w0c : Cap) (w2 : Option Pos) (w4 : Option Pos) (S : AS) : Option (AV × AS) := evC E call n 20 (E.at 20 [1, 1, 1, 1]) 0 [(0, (.sl w0a w0l w0c)), (2, (.ptr w2)), (4, (.ptr w4))] S (retK E (E.fn 20))
theorem a20_l1_1_1_0_1_0 (call : CallA) (n : Nat)  (m : Nat) (w0a : Option Pos) (w0l : Nat) (w0c : Cap) (w2 : Option Pos) (w4 : Option Pos) (w13 : Int) (S : AS) : r20_l1_1_1_0_1_0 call n  (m + 1) w0a w0l w0c w2 w4 w13 S = b20_l1_1_1_0_1_0 call n (r20_l1_1_1_0_1_0 call n  m) (r20_j1_1_1_1 call n ) w0a w0l w0c w2 w4 w13 S := by kernel_rfl
theorem a20_j1_1_1_1 (call : CallA) (n : Nat)  (w0a : Option Pos) (w0l : Nat) (w0c : Cap) (w2 : Option Pos) (w4 : Option Pos) (S : AS) : r20_j1_1_1_1 call n  w0a w0l w0c w2 w4 S = b20_j1_1_1_1 call n  w0a w0l w0c w2 w4 S := by kernel_rfl
theorem a20_entry (call : CallA) (n : Nat) (x0a : Option Pos) (x0l : Nat) (x0c : Cap) (S : AS) : evC E call n 20 (E.at 20 []) 0 (enumT 0 [(.sl x0a x0l x0c)]) S (retK E (E.fn 20)) = b20_entry call n (r20_l1_1_1_0_1_0 call n  n) x0a x0l x0c S := by kernel_rfl
def J20_j1_1_1_1 (call : CallA) (n : Nat)  (w0a : Option Pos) (w0l : Nat) (w0c : Cap) (w2 : Option Pos) (w4 : Option Pos) (S : AS) : Option (AV × AS) := b20_j1_1_1_1 call n  w0a w0l w0c w2 w4 S
theorem h20_j1_1_1_1 (call : CallA) (n : Nat)  : r20_j1_1_1_1 call n  = J20_j1_1_1_1 call n  := by
  funext w0a w0l w0c w2 w4 S
  rw [J20_j1_1_1_1, a20_j1_1_1_1]
def J20_l1_1_1_0_1_0 (call : CallA) (n : Nat)  (m : Nat) : Option Pos → Nat → Cap → Option Pos → Option Pos → Int → AS → Option (AV × AS) := Nat.rec (motive := fun _ => Option Pos → Nat → Cap → Option Pos → Option Pos → Int → AS → Option (AV × AS)) (fun _ _ _ _ _ _ _ => none) (fun mK ih w0a w0l w0c w2 w4 w13 S => b20_l1_1_1_0_1_0 call n ih (J20_j1_1_1_1 call n ) w0a w0l w0c w2 w4 w13 S) m
theorem J20_l1_1_1_0_1_0_succ (call : CallA) (n : Nat)  (m : Nat) (w0a : Option Pos) (w0l : Nat) (w0c : Cap) (w2 : Option Pos) (w4 : Option Pos) (w13 : Int) (S : AS) : J20_l1_1_1_0_1_0 call n  (m + 1) w0a w0l w0c w2 w4 w13 S = b20_l1_1_1_0_1_0 call n (J20_l1_1_1_0_1_0 call n  m) (J20_j1_1_1_1 call n ) w0a w0l w0c w2 w4 w13 S := rfl
theorem h20_l1_1_1_0_1_0 (call : CallA) (n : Nat)  (m : Nat) : r20_l1_1_1_0_1_0 call n  m = J20_l1_1_1_0_1_0 call n  m := by
  induction m with
  | zero => rfl
  | succ m ih =>
    funext w0a w0l w0c w2 w4 w13 S
    rw [J20_l1_1_1_0_1_0_succ, a20_l1_1_1_0_1_0, h20_j1_1_1_1 call n , ih]
def J20 (call : CallA) (n : Nat) (x0a : Option Pos) (x0l : Nat) (x0c : Cap) (S : AS) : Option (AV × AS) := b20_entry call n (J20_l1_1_1_0_1_0 call n  n) x0a x0l x0c S
theorem run20 (o : Orc) (n : Nat) (args : List AV) (S : AS) (ho : o 20 args = none) : evF E o (n + 1) (.fn 20) args S = evC E (evF E o n) n 20 (E.at 20 []) 0 (enumT 0 args) S (retK E (E.fn 20)) := by
  rw [evF, ho]; kernel_rfl
theorem J20_eq (call : CallA) (n : Nat) (x0a : Option Pos) (x0l : Nat) (x0c : Cap) (S : AS) : evC E call n 20 (E.at 20 []) 0 (enumT 0 [(.sl x0a x0l x0c)]) S (retK E (E.fn 20)) = J20 call n x0a x0l x0c S := by
  rw [J20, a20_entry, h20_l1_1_1_0_1_0 call n  n]
theorem F20 {o : Orc} (n : Nat) (x0a : Option Pos) (x0l : Nat) (x0c : Cap) (S : AS) (ho : ∀ args, o 20 args = none) : evF E o (n + 1) (.fn 20) [(.sl x0a x0l x0c)] S = J20 (evF E o n) n x0a x0l x0c S := (run20 o n [(.sl x0a x0l x0c)] S (ho _)).trans (J20_eq _ _ x0a x0l x0c S)
def b21_entry (call : CallA) (n : Nat)   (x0a : Option Pos) (x0l : Nat) (x0c : Cap) (S : AS) : Option (AV × AS) :=
 newA S (.cells [(.int .u64 0), (.int .u64 0), (.int .u64 0), (.int .u64 0), (.int .u64 0), (.int .u64 0)]) fun b1 S2 =>
 cond (((x0l : Nat) : Int) != 384) (
 S2.stn (.rw b1) 0 [(.int .u64 0), (.int .u64 0), (.int .u64 0), (.int .u64 0), (.int .u64 0), (.int .u64 0)] fun S3 =>
 S3.ldn (.rw b1) 0 6 fun g4 =>
 some (.tup [(.agg g4), (.int .i64 81)], S3)) (
 callI .u64 call 47 [(.sl x0a x0l x0c), (.int .i64 4), (.int .i64 8)] S2 fun v6 S5 =>
 callI .u64 call 47 [(.sl x0a x0l x0c), (.int .i64 12), (.int .i64 8)] S5 fun v8 S7 =>
 callI .u64 call 47 [(.sl x0a x0l x0c), (.int .i64 20), (.int .i64 8)] S7 fun v10 S9 =>
 callI .u64 call 47 [(.sl x0a x0l x0c), (.int .i64 28), (.int .i64 8)] S9 fun v12 S11 =>
 callI .u64 call 47 [(.sl x0a x0l x0c), (.int .i64 36), (.int .i64 8)] S11 fun v14 S13 =>
 callI .u64 call 47 [(.sl x0a x0l x0c), (.int .i64 44), (.int .i64 8)] S13 fun v16 S15 =>
 newA S15 (.cells [(.int .u64 0), (.int .u64 0), (.int .u64 0), (.int .u64 0), (.int .u64 0), (.int .u64 0)]) fun b17 S18 =>
 S18.stn (.rw b17) 0 [(.int .u64 v6), (.int .u64 v8), (.int .u64 v10), (.int .u64 v12), (.int .u64 v14), (.int .u64 v16)] fun S19 =>
 S19.ldn (.rw b17) 0 6 fun g20 =>
 callT call 11 [(.agg g20)] S19 fun v22 S21 =>
 atL v22 0 fun v23a v23l v23c =>
 atI .i64 v22 1 fun v24 =>
 cond (v24 != 0) (
 S21.stn (.rw b1) 0 [(.int .u64 0), (.int .u64 0), (.int .u64 0), (.int .u64 0), (.int .u64 0), (.int .u64 0)] fun S25 =>
 S25.ldn (.rw b1) 0 6 fun g26 =>
 some (.tup [(.agg g26), (.int .i64 81)], S25)) (
 bytesStr S21 v23a v23l fun s27 =>
 bytesStr S21 x0a x0l fun s28 =>
 cond (!(s27 == s28)) (
 S21.stn (.rw b1) 0 [(.int .u64 0), (.int .u64 0), (.int .u64 0), (.int .u64 0), (.int .u64 0), (.int .u64 0)] fun S29 =>
 S29.ldn (.rw b1) 0 6 fun g30 =>
 some (.tup [(.agg g30), (.int .i64 81)], S29)) (
 S21.ldn (.rw b17) 0 6 fun g31 =>
 ifO (g31.length = 6) <|
 S21.stn (.rw b1) 0 g31 fun S32 =>
 S32.ldn (.rw b1) 0 6 fun g33 =>
 some (.tup [(.agg g33), (.int .i64 0)], S32))))

theorem a21_entry (call : CallA) (n : Nat) (x0a : Option Pos) (x0l : Nat) (x0c : Cap) (S : AS) : evC E call n 21 (E.at 21 []) 0 (enumT 0 [(.sl x0a x0l x0c)]) S (retK E (E.fn 21)) = b21_entry call n  x0a x0l x0c S := by kernel_rfl
def J21 (call : CallA) (n : Nat) (x0a : Option Pos) (x0l : Nat) (x0c : Cap) (S : AS) : Option (AV × AS) := b21_entry call n  x0a x0l x0c S
theorem run21 (o : Orc) (n : Nat) (args : List AV) (S : AS) (ho : o 21 args = none) : evF E o (n + 1) (.fn 21) args S = evC E (evF E o n) n 21 (E.at 21 []) 0 (enumT 0 args) S (retK E (E.fn 21)) := by
  rw [evF, ho]; kernel_rfl
theorem J21_eq (call : CallA) (n : Nat) (x0a : Option Pos) (x0l : Nat) (x0c : Cap) (S : AS) : evC E call n 21 (E.at 21 []) 0 (enumT 0 [(.sl x0a x0l x0c)]) S (retK E (E.fn 21)) = J21 call n x0a x0l x0c S := by
  rw [J21, a21_entry]
theorem F21 {o : Orc} (n : Nat) (x0a : Option Pos) (x0l : Nat) (x0c : Cap) (S : AS) (ho : ∀ args, o 21 args = none) : evF E o (n + 1) (.fn 21) [(.sl x0a x0l x0c)] S = J21 (evF E o n) n x0a x0l x0c S := (run21 o n [(.sl x0a x0l x0c)] S (ho _)).trans (J21_eq _ _ x0a x0l x0c S)
def b22_l1_1_1_1_1_0_1_0 (call : CallA) (n : Nat)  (l1_1_1_1_1_0_1_0 : Option Pos → Nat → Cap → Option Pos → Nat → Cap → AS → Option (AV × AS)) (j1_1_1_1_1_1 : Option Pos → Nat → Cap → AS → Option (AV × AS)) (w5a : Option Pos) (w5l : Nat) (w5c : Cap) (w6a : Option Pos) (w6l : Nat) (w6c : Cap) (S : AS) : Option (AV × AS) :=
 cond (decide (((w6l : Nat) : Int) > 0)) (
 drawA S 12 fun b5 S6 =>
 slSl 1 w6a w6l w6c none (some 4) none fun v7a v7l v7c =>
 callI .u64 call 44 [(.sl v7a v7l v7c)] S6 fun v9 S8 =>
 slSl 1 w6a w6l w6c (some 4) (some 388) none fun v10a v10l v10c =>
 callL call 45 [(.sl v10a v10l v10c)] S8 fun v12a v12l v12c S11 =>
 layA S11 (b5 + 9) (.cells [(.int .i64 (IntKind.wrap .i64 v9)), (.sl v12a v12l v12c)]) fun S13 =>
 appendA 2 32 S13 w5a w5l w5c 1 (firstA S13 2 1 (.sl (some (.rw (b5 + 9), 0)) 1 (.ex 1))) fun v14a v14l v14c S15 =>
 slSl 1 w6a w6l w6c (some 388) none none fun v16a v16l v16c =>
 l1_1_1_1_1_0_1_0 v14a v14l v14c v16a v16l v16c S15) (
 j1_1_1_1_1_1 w5a w5l w5c S)

def b22_j1_1_1_1_1_1 (call : CallA) (n : Nat)   (w5a : Option Pos) (w5l : Nat) (w5c : Cap) (S : AS) : Option (AV × AS) :=
 callT call 12 [(.sl w5a w5l w5c)] S fun v18 S17 =>
 atL v18 0 fun v19a v19l v19c =>
 atI .i64 v18 1 fun v20 =>
 cond (v20 != 0) (
 some (.tup [(.sl none 0 (.ex 0)), (.int .i64 v20)], S17)) (
 some (.tup [(.sl w5a w5l w5c), (.int .i64 0)], S17))

def b22_entry (call : CallA) (n : Nat)  (l1_1_1_1_1_0_1_0 : Option Pos → Nat → Cap → Option Pos → Nat → Cap → AS → Option (AV × AS)) (x0a : Option Pos) (x0l : Nat) (x0c : Cap) (S : AS) : Option (AV × AS) :=
 cond (decide (((x0l : Nat) : Int) < 4)) (
 some (.tup [(.sl none 0 (.ex 0)), (.int .i64 82)], S)) (
 slSl 1 x0a x0l x0c none (some 4) none fun v1a v1l v1c =>
 callI .u64 call 44 [(.sl v1a v1l v1c)] S fun v3 S2 =>
 cond (decide (v3 > 64)) (
 some (.tup [(.sl none 0 (.ex 0)), (.int .i64 82)], S2)) (
 cond ((IntKind.wrap .u64 (IntKind.wrap .i64 (((x0l : Nat) : Int) - 4))) != (IntKind.wrap .u64 (v3 * 388))) (
 some (.tup [(.sl none 0 (.ex 0)), (.int .i64 82)], S2)) (
 slSl 1 x0a x0l x0c (some 4) none none fun v4a v4l v4c =>
 l1_1_1_1_1_0_1_0 none 0 (.ex 0) v4a v4l v4c S2)))

def r22_l1_1_1_1_1_0_1_0 (call : CallA) (n : Nat)  (m : Nat) (w5a : Option Pos) (w5l : Nat) (w5c : Cap) (w6a : Option Pos) (w6l : Nat) (w6c : Cap) (S : AS) : Option (AV × AS) := loopN (evC E call n 22 (E.at 22 [1, 1, 1, 1, 1, 0, 1, 0, 0]) 0) [5, 6] m [(5, (.sl w5a w5l w5c)), (6, (.sl w6a w6l w6c))] S (kBlk 0 (kSeq E call n 22 (E.at 22 [1, 1, 1, 1, 1, 1]) 0 (retK E (E.fn 22))))
def r22_j1_1_1_1_1_1 (call : CallA) (n : Nat)  (w5a : Option Pos) (w5l : Nat) (w5c : Cap) (S : AS) : Option (AV × AS) := evC E call n 22 (E.at 22 [1, 1, 1, 1, 1, 1]) 0 [(5, (.sl w5a w5l w5c))] S (retK E (E.fn 22))
theorem a22_l1_1_1_1_1_0_1_0 (call : CallA) (n : Nat)  (m : Nat) (w5a : Option Pos) (w5l : Nat) (w5c : Cap) (w6a : Option Pos) (w6l : Nat) (w6c : Cap) (S : AS) : r22_l1_1_1_1_1_0_1_0 call n  (m + 1) w5a w5l w5c w6a w6l w6c S = b22_l1_1_1_1_1_0_1_0 call n (r22_l1_1_1_1_1_0_1_0 call n  m) (r22_j1_1_1_1_1_1 call n ) w5a w5l w5c w6a w6l w6c S := by kernel_rfl
theorem a22_j1_1_1_1_1_1 (call : CallA) (n : Nat)  (w5a : Option Pos) (w5l : Nat) (w5c : Cap) (S : AS) : r22_j1_1_1_1_1_1 call n  w5a w5l w5c S = b22_j1_1_1_1_1_1 call n  w5a w5l w5c S := by kernel_rfl
theorem a22_entry (call : CallA) (n : Nat) (x0a : Option Pos) (x0l : Nat) (x0c : Cap) (S : AS) : evC E call n 22 (E.at 22 []) 0 (enumT 0 [(.sl x0a x0l x0c)]) S (retK E (E.fn 22)) = b22_entry call n (r22_l1_1_1_1_1_0_1_0 call n  n) x0a x0l x0c S := by kernel_rfl
def J22_j1_1_1_1_1_1 (call : CallA) (n : Nat)  (w5a : Option Pos) (w5l : Nat) (w5c : Cap) (S : AS) : Option (AV × AS) := b22_j1_1_1_1_1_1 call n  w5a w5l w5c S
theorem h22_j1_1_1_1_1_1 (call : CallA) (n : Nat)  : r22_j1_1_1_1_1_1 call n  = J22_j1_1_1_1_1_1 call n  := by
  funext w5a w5l w5c S
  rw [J22_j1_1_1_1_1_1, a22_j1_1_1_1_1_1]
def J22_l1_1_1_1_1_0_1_0 (call : CallA) (n : Nat)  (m : Nat) : Option Pos → Nat → Cap → Option Pos → Nat → Cap → AS → Option (AV × AS) := Nat.rec (motive := fun _ => Option Pos → Nat → Cap → Option Pos → Nat → Cap → AS → Option (AV × AS)) (fun _ _ _ _ _ _ _ => none) (fun mK ih w5a w5l w5c w6a w6l w6c S => b22_l1_1_1_1_1_0_1_0 call n ih (J22_j1_1_1_1_1_1 call n ) w5a w5l w5c w6a w6l w6c S) m
theorem J22_l1_1_1_1_1_0_1_0_succ (call : CallA) (n : Nat)  (m : Nat) (w5a : Option Pos) (w5l : Nat) (w5c : Cap) (w6a : Option Pos) (w6l : Nat) (w6c : Cap) (S : AS) : J22_l1_1_1_1_1_0_1_0 call n  (m + 1) w5a w5l w5c w6a w6l w6c S = b22_l1_1_1_1_1_0_1_0 call n (J22_l1_1_1_1_1_0_1_0 call n  m) (J22_j1_1_1_1_1_1 call n ) w5a w5l w5c w6a w6l w6c S := rfl
theorem h22_l1_1_1_1_1_0_1_0 (call : CallA) (n : Nat)  (m : Nat) : r22_l1_1_1_1_1_0_1_0 call n  m = J22_l1_1_1_1_1_0_1_0 call n  m := by
  induction m with
  | zero => rfl
  | succ m ih =>
    funext w5a w5l w5c w6a w6l w6c S
    rw [J22_l1_1_1_1_1_0_1_0_succ, a22_l1_1_1_1_1_0_1_0, h22_j1_1_1_1_1_1 call n , ih]
def J22 (call : CallA) (n : Nat) (x0a : Option Pos) (x0l : Nat) (x0c : Cap) (S : AS) : Option (AV × AS) := b22_entry call n (J22_l1_1_1_1_1_0_1_0 call n  n) x0a x0l x0c S
theorem run22 (o : Orc) (n : Nat) (args : List AV) (S : AS) (ho : o 22 args = none) : evF E o (n + 1) (.fn 22) args S = evC E (evF E o n) n 22 (E.at 22 []) 0 (enumT 0 args) S (retK E (E.fn 22)) := by
  rw [evF, ho]; kernel_rfl
theorem J22_eq (call : CallA) (n : Nat) (x0a : Option Pos) (x0l : Nat) (x0c : Cap) (S : AS) : evC E call n 22 (E.at 22 []) 0 (enumT 0 [(.sl x0a x0l x0c)]) S (retK E (E.fn 22)) = J22 call n x0a x0l x0c S := by
  rw [J22, a22_entry, h22_l1_1_1_1_1_0_1_0 call n  n]
theorem F22 {o : Orc} (n : Nat) (x0a : Option Pos) (x0l : Nat) (x0c : Cap) (S : AS) (ho : ∀ args, o 22 args = none) : evF E o (n + 1) (.fn 22) [(.sl x0a x0l x0c)] S = J22 (evF E o n) n x0a x0l x0c S := (run22 o n [(.sl x0a x0l x0c)] S (ho _)).trans (J22_eq _ _ x0a x0l x0c S)
def b23_l1_1_1_0_1_0 (call : CallA) (n : Nat)  (l1_1_1_0_1_0 : Option Pos → Nat → Cap → Option Pos → Nat → Cap → Int → Option Pos → Nat → Cap → Int → AS → Option (AV × AS)) (j1_1_1_1 : Option Pos → Nat → Cap → AS → Option (AV × AS)) (w0a : Option Pos) (w0l : Nat) (w0c : Cap) (w2a : Option Pos) (w2l : Nat) (w2c : Cap) (w3 : Int) (w4a : Option Pos) (w4l : Nat) (w4c : Cap) (w5 : Int) (S : AS) : Option (AV × AS) :=
 cond (decide (w5 < ((w0l : Nat) : Int))) (
 callI .u64 call 47 [(.sl w0a w0l w0c), (.int .i64 w5), (.int .i64 4)] S fun v8 S7 =>
 cond (decide (v8 > 2147483647)) (
 some (.tup [(.sl none 0 (.ex 0)), (.int .i64 82)], S7)) (
 newA S7 (.cells []) fun b9 S10 =>
 slSl 1 w0a w0l w0c (some (IntKind.wrap .i64 (w5 + 4))) (some (IntKind.wrap .i64 ((IntKind.wrap .i64 (w5 + 4)) + 384))) none fun v11a v11l v11c =>
 appendA 1 1 S10 (some (.rw b9, 0)) 0 (.ex 0) v11l (firstA S10 1 v11l (.sl v11a v11l v11c)) fun v12a v12l v12c S13 =>
 newA S13 (.cells [(.int .i64 (IntKind.wrap .i64 v8)), (.sl v12a v12l v12c)]) fun b14 S15 =>
 appendA 2 32 S15 w4a w4l w4c 1 (firstA S15 2 1 (.sl (some (.rw b14, 0)) 1 (.ex 1))) fun v16a v16l v16c S17 =>
 l1_1_1_0_1_0 w0a w0l w0c w2a w2l w2c w3 v16a v16l v16c (IntKind.wrap .i64 ((IntKind.wrap .i64 (w5 + 384)) + 4)) S17)) (
 j1_1_1_1 w4a w4l w4c S)

def b23_j1_1_1_1 (call : CallA) (n : Nat)   (w4a : Option Pos) (w4l : Nat) (w4c : Cap) (S : AS) : Option (AV × AS) :=
 some (.tup [(.sl w4a w4l w4c), (.int .i64 0)], S)

def b23_entry (call : CallA) (n : Nat)  (l1_1_1_0_1_0 : Option Pos → Nat → Cap → Option Pos → Nat → Cap → Int → Option Pos → Nat → Cap → Int → AS → Option (AV × AS)) (x0a : Option Pos) (x0l : Nat) (x0c : Cap) (S : AS) : Option (AV × AS) :=
 cond (decide (((x0l : Nat) : Int) < 4)) (
 some (.tup [(.sl none 0 (.ex 0)), (.int .i64 82)], S)) (
 callI .u64 call 47 [(.sl x0a x0l x0c), (.int .i64 0), (.int .i64 4)] S fun v2 S1 =>
 cond (decide (v2 > 64)) (
 some (.tup [(.sl none 0 (.ex 0)), (.int .i64 82)], S1)) (
 callI .u64 call 47 [(.sl x0a x0l x0c), (.int .i64 0), (.int .i64 4)] S1 fun v4 S3 =>
 cond (decide (v4 < 1)) (
 some (.tup [(.sl none 0 (.ex 0)), (.int .i64 82)], S3)) (
 callI .u64 call 47 [(.sl x0a x0l x0c), (.int .i64 0), (.int .i64 4)] S3 fun v6 S5 =>
 cond (((x0l : Nat) : Int) != (IntKind.wrap .i64 (4 + (IntKind.wrap .i64 (388 * (IntKind.wrap .i64 v6)))))) (
 some (.tup [(.sl none 0 (.ex 0)), (.int .i64 82)], S5)) (
 l1_1_1_0_1_0 x0a x0l x0c none 0 (.ex 0) 0 none 0 (.ex 0) 4 S5))))

def r23_l1_1_1_0_1_0 (call : CallA) (n : Nat)  (m : Nat) (w0a : Option Pos) (w0l : Nat) (w0c : Cap) (w2a : Option Pos) (w2l : Nat) (w2c : Cap) (w3 : Int) (w4a : Option Pos) (w4l : Nat) (w4c : Cap) (w5 : Int) (S : AS) : Option (AV × AS) := loopN (evC E call n 23 (E.at 23 [1, 1, 1, 0, 1, 0, 0]) 0) [0, 2, 3, 4, 5] m [(0, (.sl w0a w0l w0c)), (2, (.sl w2a w2l w2c)), (3, (.int .i64 w3)), (4, (.sl w4a w4l w4c)), (5, (.int .i64 w5))] S (kBlk 0 (kSeq E call n 23 (E.at 23 [1, 1, 1, 1]) 0 (retK E (E.fn 23))))
def r23_j1_1_1_1 (call : CallA) (n : Nat)  (w4a : Option Pos) (w4l : Nat) (w4c : Cap) (S : AS) : Option (AV × AS) := evC E call n 23 (E.at 23 [1, 1, 1, 1]) 0 [(4, (.sl w4a w4l w4c))] S (retK E (E.fn 23))
theorem a23_l1_1_1_0_1_0 (call : CallA) (n : Nat)  (m : Nat) (w0a : Option Pos) (w0l : Nat) (w0c : Cap) (w2a : Option Pos) (w2l : Nat) (w2c : Cap) (w3 : Int) (w4a : Option Pos) (w4l : Nat) (w4c : Cap) (w5 : Int) (S : AS) : r23_l1_1_1_0_1_0 call n  (m + 1) w0a w0l w0c w2a w2l w2c w3 w4a w4l w4c w5 S = b23_l1_1_1_0_1_0 call n (r23_l1_1_1_0_1_0 call n  m) (r23_j1_1_1_1 call n ) w0a w0l w0c w2a w2l w2c w3 w4a w4l w4c w5 S := by kernel_rfl
theorem a23_j1_1_1_1 (call : CallA) (n : Nat)  (w4a : Option Pos) (w4l : Nat) (w4c : Cap) (S : AS) : r23_j1_1_1_1 call n  w4a w4l w4c S = b23_j1_1_1_1 call n  w4a w4l w4c S := by kernel_rfl
theorem a23_entry (call : CallA) (n : Nat) (x0a : Option Pos) (x0l : Nat) (x0c : Cap) (S : AS) : evC E call n 23 (E.at 23 []) 0 (enumT 0 [(.sl x0a x0l x0c)]) S (retK E (E.fn 23)) = b23_entry call n (r23_l1_1_1_0_1_0 call n  n) x0a x0l x0c S := by kernel_rfl
def J23_j1_1_1_1 (call : CallA) (n : Nat)  (w4a : Option Pos) (w4l : Nat) (w4c : Cap) (S : AS) : Option (AV × AS) := b23_j1_1_1_1 call n  w4a w4l w4c S
theorem h23_j1_1_1_1 (call : CallA) (n : Nat)  : r23_j1_1_1_1 call n  = J23_j1_1_1_1 call n  := by
  funext w4a w4l w4c S
  rw [J23_j1_1_1_1, a23_j1_1_1_1]
def J23_l1_1_1_0_1_0 (call : CallA) (n : Nat)  (m : Nat) : Option Pos → Nat → Cap → Option Pos → Nat → Cap → Int → Option Pos → Nat → Cap → Int → AS → Option (AV × AS) := Nat.rec (motive := fun _ => Option Pos → Nat → Cap → Option Pos → Nat → Cap → Int → Option Pos → Nat → Cap → Int → AS → Option (AV × AS)) (fun _ _ _ _ _ _ _ _ _ _ _ _ => none) (fun mK ih w0a w0l w0c w2a w2l w2c w3 w4a w4l w4c w5 S => b23_l1_1_1_0_1_0 call n ih (J23_j1_1_1_1 call n ) w0a w0l w0c w2a w2l w2c w3 w4a w4l w4c w5 S) m
theorem J23_l1_1_1_0_1_0_succ (call : CallA) (n : Nat)  (m : Nat) (w0a : Option Pos) (w0l : Nat) (w0c : Cap) (w2a : Option Pos) (w2l : Nat) (w2c : Cap) (w3 : Int) (w4a : Option Pos) (w4l : Nat) (w4c : Cap) (w5 : Int) (S : AS) : J23_l1_1_1_0_1_0 call n  (m + 1) w0a w0l w0c w2a w2l w2c w3 w4a w4l w4c w5 S = b23_l1_1_1_0_1_0 call n (J23_l1_1_1_0_1_0 call n  m) (J23_j1_1_1_1 call n ) w0a w0l w0c w2a w2l w2c w3 w4a w4l w4c w5 S := rfl
theorem h23_l1_1_1_0_1_0 (call : CallA) (n : Nat)  (m : Nat) : r23_l1_1_1_0_1_0 call n  m = J23_l1_1_1_0_1_0 call n  m := by
  induction m with
  | zero => rfl
  | succ m ih =>
    funext w0a w0l w0c w2a w2l w2c w3 w4a w4l w4c w5 S
    rw [J23_l1_1_1_0_1_0_succ, a23_l1_1_1_0_1_0, h23_j1_1_1_1 call n , ih]
def J23 (call : CallA) (n : Nat) (x0a : Option Pos) (x0l : Nat) (x0c : Cap) (S : AS) : Option (AV × AS) := b23_entry call n (J23_l1_1_1_0_1_0 call n  n) x0a x0l x0c S
theorem run23 (o : Orc) (n : Nat) (args : List AV) (S : AS) (ho : o 23 args = none) : evF E o (n + 1) (.fn 23) args S = evC E (evF E o n) n 23 (E.at 23 []) 0 (enumT 0 args) S (retK E (E.fn 23)) := by
  rw [evF, ho]; kernel_rfl
theorem J23_eq (call : CallA) (n : Nat) (x0a : Option Pos) (x0l : Nat) (x0c : Cap) (S : AS) : evC E call n 23 (E.at 23 []) 0 (enumT 0 [(.sl x0a x0l x0c)]) S (retK E (E.fn 23)) = J23 call n x0a x0l x0c S := by
  rw [J23, a23_entry, h23_l1_1_1_0_1_0 call n  n]
theorem F23 {o : Orc} (n : Nat) (x0a : Option Pos) (x0l : Nat) (x0c : Cap) (S : AS) (ho : ∀ args, o 23 args = none) : evF E o (n + 1) (.fn 23) [(.sl x0a x0l x0c)] S = J23 (evF E o n) n x0a x0l x0c S := (run23 o n [(.sl x0a x0l x0c)] S (ho _)).trans (J23_eq _ _ x0a x0l x0c S)
def b24_entry (call : CallA) (n : Nat)   (x0 : List AV) (x1 : List AV) (S : AS) : Option (AV × AS) :=
 ifO (x0.length = 7) <|
 newA S (.cells x0) fun b1 S2 =>
 ifO (x1.length = 7) <|
 newA S2 (.cells x1) fun b3 S4 =>
 ldI .u64 S4 (.rw b1) 0 fun v5 =>
 ldI .u64 S4 (.rw b3) 0 fun v6 =>
 cond (v5 == v6) (
 ldI .u64 S4 (.rw b1) 1 fun v7 =>
 ldI .u64 S4 (.rw b3) 1 fun v8 =>
 cond (v7 == v8) (
 ldI .u64 S4 (.rw b1) 2 fun v9 =>
 ldI .u64 S4 (.rw b3) 2 fun v10 =>
 cond (v9 == v10) (
 ldI .u64 S4 (.rw b1) 3 fun v11 =>
 ldI .u64 S4 (.rw b3) 3 fun v12 =>
 cond (v11 == v12) (
 ldI .i64 S4 (.rw b1) 4 fun v13 =>
 ldI .i64 S4 (.rw b3) 4 fun v14 =>
 cond (v13 == v14) (
 ldI .i64 S4 (.rw b1) 5 fun v15 =>
 ldI .i64 S4 (.rw b3) 5 fun v16 =>
 cond (v15 == v16) (
 ldL S4 (.rw b1) 6 fun v17a v17l v17c =>
 bytesStr S4 v17a v17l fun s18 =>
 ldL S4 (.rw b3) 6 fun v19a v19l v19c =>
 bytesStr S4 v19a v19l fun s20 =>
 some ((.bool (s18 == s20)), S4)) (
 some ((.bool false), S4))) (
 some ((.bool false), S4))) (
 some ((.bool false), S4))) (
 some ((.bool false), S4))) (
 some ((.bool false), S4))) (
 some ((.bool false), S4))

theorem a24_entry (call : CallA) (n : Nat) (x0 : List AV) (x1 : List AV) (S : AS) : evC E call n 24 (E.at 24 []) 0 (enumT 0 [(.agg x0), (.agg x1)]) S (retK E (E.fn 24)) = b24_entry call n  x0 x1 S := by kernel_rfl
def J24 (call : CallA) (n : Nat) (x0 : List AV) (x1 : List AV) (S : AS) : Option (AV × AS) := b24_entry call n  x0 x1 S
theorem run24 (o : Orc) (n : Nat) (args : List AV) (S : AS) (ho : o 24 args = none) : evF E o (n + 1) (.fn 24) args S = evC E (evF E o n) n 24 (E.at 24 []) 0 (enumT 0 args) S (retK E (E.fn 24)) := by
  rw [evF, ho]; kernel_rfl
theorem J24_eq (call : CallA) (n : Nat) (x0 : List AV) (x1 : List AV) (S : AS) : evC E call n 24 (E.at 24 []) 0 (enumT 0 [(.agg x0), (.agg x1)]) S (retK E (E.fn 24)) = J24 call n x0 x1 S := by
  rw [J24, a24_entry]
theorem F24 {o : Orc} (n : Nat) (x0 : List AV) (x1 : List AV) (S : AS) (ho : ∀ args, o 24 args = none) : evF E o (n + 1) (.fn 24) [(.agg x0), (.agg x1)] S = J24 (evF E o n) n x0 x1 S := (run24 o n [(.agg x0), (.agg x1)] S (ho _)).trans (J24_eq _ _ x0 x1 S)
def b25_l1_1_0_1_0 (call : CallA) (n : Nat)  (l1_1_0_1_0 : Option Pos → Nat → Cap → Option Pos → Nat → Cap → Bool → Int → AS → Option (AV × AS)) (w0a : Option Pos) (w0l : Nat) (w0c : Cap) (w1a : Option Pos) (w1l : Nat) (w1c : Cap) (w4 : Bool) (w5 : Int) (S : AS) : Option (AV × AS) :=
 cond (decide (w5 < ((w0l : Nat) : Int))) (
 ixSl 2 w0a w0l w5 fun p1 =>
 ldI .i64 S p1.1 p1.2 fun v2 =>
 ixSl 2 w1a w1l w5 fun p3 =>
 ldI .i64 S p3.1 p3.2 fun v4 =>
 cond (v2 != v4) (
 some ((.bool false), S)) (
 ixSl 2 w0a w0l w5 fun p5 =>
 ldL S p5.1 (p5.2 + 1) fun v6a v6l v6c =>
 bytesStr S v6a v6l fun s7 =>
 ixSl 2 w1a w1l w5 fun p8 =>
 ldL S p8.1 (p8.2 + 1) fun v9a v9l v9c =>
 bytesStr S v9a v9l fun s10 =>
 cond (!(s7 == s10)) (
 some ((.bool false), S)) (
 l1_1_0_1_0 w0a w0l w0c w1a w1l w1c w4 (IntKind.wrap .i64 (w5 + 1)) S))) (
 some ((.bool true), S))

def b25_entry (call : CallA) (n : Nat)  (l1_1_0_1_0 : Option Pos → Nat → Cap → Option Pos → Nat → Cap → Bool → Int → AS → Option (AV × AS)) (x0a : Option Pos) (x0l : Nat) (x0c : Cap) (x1a : Option Pos) (x1l : Nat) (x1c : Cap) (S : AS) : Option (AV × AS) :=
 cond (((x0l : Nat) : Int) != ((x1l : Nat) : Int)) (
 some ((.bool false), S)) (
 l1_1_0_1_0 x0a x0l x0c x1a x1l x1c false 0 S)

def r25_l1_1_0_1_0 (call : CallA) (n : Nat)  (m : Nat) (w0a : Option Pos) (w0l : Nat) (w0c : Cap) (w1a : Option Pos) (w1l : Nat) (w1c : Cap) (w4 : Bool) (w5 : Int) (S : AS) : Option (AV × AS) := loopN (evC E call n 25 (E.at 25 [1, 1, 0, 1, 0, 0]) 0) [0, 1, 4, 5] m [(0, (.sl w0a w0l w0c)), (1, (.sl w1a w1l w1c)), (4, (.bool w4)), (5, (.int .i64 w5))] S (kBlk 0 (kSeq E call n 25 (E.at 25 [1, 1, 1]) 0 (retK E (E.fn 25))))
theorem a25_l1_1_0_1_0 (call : CallA) (n : Nat)  (m : Nat) (w0a : Option Pos) (w0l : Nat) (w0c : Cap) (w1a : Option Pos) (w1l : Nat) (w1c : Cap) (w4 : Bool) (w5 : Int) (S : AS) : r25_l1_1_0_1_0 call n  (m + 1) w0a w0l w0c w1a w1l w1c w4 w5 S = b25_l1_1_0_1_0 call n (r25_l1_1_0_1_0 call n  m) w0a w0l w0c w1a w1l w1c w4 w5 S := by kernel_rfl
theorem a25_entry (call : CallA) (n : Nat) (x0a : Option Pos) (x0l : Nat) (x0c : Cap) (x1a : Option Pos) (x1l : Nat) (x1c : Cap) (S : AS) : evC E call n 25 (E.at 25 []) 0 (enumT 0 [(.sl x0a x0l x0c), (.sl x1a x1l x1c)]) S (retK E (E.fn 25)) = b25_entry call n (r25_l1_1_0_1_0 call n  n) x0a x0l x0c x1a x1l x1c S := by kernel_rfl
def J25_l1_1_0_1_0 (call : CallA) (n : Nat)  (m : Nat) : Option Pos → Nat → Cap → Option Pos → Nat → Cap → Bool → Int → AS → Option (AV × AS) := Nat.rec (motive := fun _ => Option Pos → Nat → Cap → Option Pos → Nat → Cap → Bool → Int → AS → Option (AV × AS)) (fun _ _ _ _ _ _ _ _ _ => none) (fun mK ih w0a w0l w0c w1a w1l w1c w4 w5 S => b25_l1_1_0_1_0 call n ih w0a w0l w0c w1a w1l w1c w4 w5 S) m
theorem J25_l1_1_0_1_0_succ (call : CallA) (n : Nat)  (m : Nat) (w0a : Option Pos) (w0l : Nat) (w0c : Cap) (w1a : Option Pos) (w1l : Nat) (w1c : Cap) (w4 : Bool) (w5 : Int) (S : AS) : J25_l1_1_0_1_0 call n  (m + 1) w0a w0l w0c w1a w1l w1c w4 w5 S = b25_l1_1_0_1_0 call n (J25_l1_1_0_1_0 call n  m) w0a w0l w0c w1a w1l w1c w4 w5 S := rfl
theorem h25_l1_1_0_1_0 (call : CallA) (n : Nat)  (m : Nat) : r25_l1_1_0_1_0 call n  m = J25_l1_1_0_1_0 call n  m := by
  induction m with
  | zero => rfl
  | succ m ih =>
    funext w0a w0l w0c w1a w1l w1c w4 w5 S
    rw [J25_l1_1_0_1_0_succ, a25_l1_1_0_1_0, ih]
def J25 (call : CallA) (n : Nat) (x0a : Option Pos) (x0l : Nat) (x0c : Cap) (x1a : Option Pos) (x1l : Nat) (x1c : Cap) (S : AS) : Option (AV × AS) := b25_entry call n (J25_l1_1_0_1_0 call n  n) x0a x0l x0c x1a x1l x1c S
theorem run25 (o : Orc) (n : Nat) (args : List AV) (S : AS) (ho : o 25 args = none) : evF E o (n + 1) (.fn 25) args S = evC E (evF E o n) n 25 (E.at 25 []) 0 (enumT 0 args) S (retK E (E.fn 25)) := by
  rw [evF, ho]; kernel_rfl
theorem J25_eq (call : CallA) (n : Nat) (x0a : Option Pos) (x0l : Nat) (x0c : Cap) (x1a : Option Pos) (x1l : Nat) (x1c : Cap) (S : AS) : evC E call n 25 (E.at 25 []) 0 (enumT 0 [(.sl x0a x0l x0c), (.sl x1a x1l x1c)]) S (retK E (E.fn 25)) = J25 call n x0a x0l x0c x1a x1l x1c S := by
  rw [J25, a25_entry, h25_l1_1_0_1_0 call n  n]
theorem F25 {o : Orc} (n : Nat) (x0a : Option Pos) (x0l : Nat) (x0c : Cap) (x1a : Option Pos) (x1l : Nat) (x1c : Cap) (S : AS) (ho : ∀ args, o 25 args = none) : evF E o (n + 1) (.fn 25) [(.sl x0a x0l x0c), (.sl x1a x1l x1c)] S = J25 (evF E o n) n x0a x0l x0c x1a x1l x1c S := (run25 o n [(.sl x0a x0l x0c), (.sl x1a x1l x1c)] S (ho _)).trans (J25_eq _ _ x0a x0l x0c x1a x1l x1c S)
def b26_l1_1_1_1_1_1_1_1_0_1_0 (call : CallA) (n : Nat)  (l1_1_1_1_1_1_1_1_0_1_0 : Option Pos → Int → Int → Option Pos → Nat → Cap → Int → Int → Int → Int → Int → AS → Option (AV × AS)) (j1_1_1_1_1_1_1_1_1 : Option Pos → Int → Int → AS → Option (AV × AS)) (w0 : Option Pos) (w4 : Int) (w5 : Int) (w6a : Option Pos) (w6l : Nat) (w6c : Cap) (w8 : Int) (w9 : Int) (w10 : Int) (w60 : Int) (w61 : Int) (S : AS) : Option (AV × AS) :=
 cond (decide (w61 < w60)) (
 slSl 1 w6a w6l w6c (some (IntKind.wrap .i64 (w61 * 336))) (some (if ((w6l : Nat) : Int) < (IntKind.wrap .i64 ((IntKind.wrap .i64 (w61 + 1)) * 336)) then ((w6l : Nat) : Int) else (IntKind.wrap .i64 ((IntKind.wrap .i64 (w61 + 1)) * 336)))) none fun v23a v23l v23c =>
 gO w0 fun p24 =>
 ldI .u64 S p24.1 (p24.2 + 3 + 1) fun v25 =>
 gO w0 fun p26 =>
 ldI .u64 S p26.1 (p26.2 + 11) fun v27 =>
 callT call 8 [(.agg [(.int .u64 v25), (.int .u64 v27), (.int .u64 (IntKind.wrap .u64 (w9 + (IntKind.wrap .u64 w61)))), (.int .u64 w10), (.int .i64 w61), (.int .i64 w8), (.sl v23a v23l v23c)])] S fun v29 S28 =>
 atL v29 0 fun v30a v30l v30c =>
 atI .i64 v29 1 fun v31 =>
 gO w0 fun p32 =>
 ldV S28 p32.1 p32.2 fun v33 =>
 callI .i64 call 49 [(.ptr w0), (.int .u64 (IntKind.wrap .u64 (w9 + (IntKind.wrap .u64 w61))))] S28 fun v35 S34 =>
 ldV S34 p32.1 p32.2 fun v36 =>
 cond (AV.beq v36 v33) (
 nilV E v33 fun v37 =>
 invV E call v33 "Write" [(.int .i64 v35), (.sl v30a v30l v30c)] S34 fun v39 S38 =>
 gIk .i64 v39 fun v40 =>
 cond (v40 != 0) (
 some (.tup [(.int .u64 0), (.int .i64 v40)], S38)) (
 l1_1_1_1_1_1_1_1_0_1_0 w0 w4 w5 w6a w6l w6c w8 w9 w10 w60 (IntKind.wrap .i64 (w61 + 1)) S38)) none) (
 j1_1_1_1_1_1_1_1_1 w0 w8 w10 S)

def b26_j1_1_1_1_1_1_1_1_1 (call : CallA) (n : Nat)   (w0 : Option Pos) (w8 : Int) (w10 : Int) (S : AS) : Option (AV × AS) :=
 drawA S 22 fun b41 S42 =>
 gO w0 fun p43 =>
 ldL S42 p43.1 (p43.2 + 9) fun v44a v44l v44c =>
 gO w0 fun p45 =>
 ldI .u64 S42 p45.1 (p45.2 + 3 + 1) fun v46 =>
 gO w0 fun p47 =>
 ldI .u64 S42 p47.1 (p47.2 + 11) fun v48 =>
 layA S42 (b41 + 17) (.cells [(.int .i64 w8), (.int .u64 v46), (.int .u64 v48)]) fun S49 =>
 appendA 3 24 S49 v44a v44l v44c 1 (firstA S49 3 1 (.sl (some (.rw (b41 + 17), 0)) 1 (.ex 1))) fun v50a v50l v50c S51 =>
 gO w0 fun p52 =>
 S51.stn p52.1 (p52.2 + 9) [(.sl v50a v50l v50c)] fun S53 =>
 some (.tup [(.int .u64 w10), (.int .i64 0)], S53)

def b26_entry (call : CallA) (n : Nat)  (l1_1_1_1_1_1_1_1_0_1_0 : Option Pos → Int → Int → Option Pos → Nat → Cap → Int → Int → Int → Int → Int → AS → Option (AV × AS)) (x0 : Option Pos) (x1a : Option Pos) (x1l : Nat) (x1c : Cap) (S : AS) : Option (AV × AS) :=
 cond x0.isNone (
 some (.tup [(.int .u64 0), (.int .i64 7)], S)) (
 callT call 12 [(.sl x1a x1l x1c)] S fun v2 S1 =>
 atL v2 0 fun v3a v3l v3c =>
 atI .i64 v2 1 fun v4 =>
 cond (v4 != 0) (
 some (.tup [(.int .u64 0), (.int .i64 v4)], S1)) (
 callI .i64 call 16 [(.int .i64 ((x1l : Nat) : Int))] S1 fun v6 S5 =>
 callI .u64 call 48 [(.ptr x0)] S5 fun v8 S7 =>
 callI .u64 call 31 [(.ptr x0)] S7 fun v10 S9 =>
 callI .i64 call 34 [(.ptr x0)] S9 fun v12 S11 =>
 cond (decide (v6 > v12)) (
 some (.tup [(.int .u64 0), (.int .i64 5)], S11)) (
 gO x0 fun p13 =>
 ldI .u64 S11 p13.1 (p13.2 + 11) fun v14 =>
 newA S11 (.cells [(.int .u64 (IntKind.wrap .u64 (v10 + 1))), (.int .u64 (IntKind.wrap .u64 (v14 + 1))), (.int .u64 (IntKind.wrap .u64 (v8 + (IntKind.wrap .u64 v6))))]) fun b15 S16 =>
 callB call 39 [(.sl (some (.rw b15, 0)) 3 (.ex 3))] S16 fun v18 S17 =>
 cond (!v18) (
 some (.tup [(.int .u64 0), (.int .i64 5)], S17)) (
 gO x0 fun p19 =>
 ldI .u64 S17 p19.1 (p19.2 + 11) fun v20 =>
 gO x0 fun p21 =>
 S17.stn p21.1 (p21.2 + 11) [(.int .u64 (IntKind.wrap .u64 (v20 + 1)))] fun S22 =>
 l1_1_1_1_1_1_1_1_0_1_0 x0 0 0 v3a v3l v3c v6 v8 (IntKind.wrap .u64 (v10 + 1)) v6 0 S22))))

def r26_l1_1_1_1_1_1_1_1_0_1_0 (call : CallA) (n : Nat)  (m : Nat) (w0 : Option Pos) (w4 : Int) (w5 : Int) (w6a : Option Pos) (w6l : Nat) (w6c : Cap) (w8 : Int) (w9 : Int) (w10 : Int) (w60 : Int) (w61 : Int) (S : AS) : Option (AV × AS) := loopN (evC E call n 26 (E.at 26 [1, 1, 1, 1, 1, 1, 1, 1, 0, 1, 0, 0]) 0) [0, 4, 5, 6, 8, 9, 10, 60, 61] m [(0, (.ptr w0)), (4, (.int .u64 w4)), (5, (.int .i64 w5)), (6, (.sl w6a w6l w6c)), (8, (.int .i64 w8)), (9, (.int .u64 w9)), (10, (.int .u64 w10)), (60, (.int .i64 w60)), (61, (.int .i64 w61))] S (kBlk 0 (kSeq E call n 26 (E.at 26 [1, 1, 1, 1, 1, 1, 1, 1, 1]) 0 (retK E (E.fn 26))))
def r26_j1_1_1_1_1_1_1_1_1 (call : CallA) (n : Nat)  (w0 : Option Pos) (w8 : Int) (w10 : Int) (S : AS) : Option (AV × AS) := evC E call n 26 (E.at 26 [1, 1, 1, 1, 1, 1, 1, 1, 1]) 0 [(0, (.ptr w0)), (8, (.int .i64 w8)), (10, (.int .u64 w10))] S (retK E (E.fn 26))
theorem a26_l1_1_1_1_1_1_1_1_0_1_0 (call : CallA) (n : Nat)  (m : Nat) (w0 : Option Pos) (w4 : Int) (w5 : Int) (w6a : Option Pos) (w6l : Nat) (w6c : Cap) (w8 : Int) (w9 : Int) (w10 : Int) (w60 : Int) (w61 : Int) (S : AS) : r26_l1_1_1_1_1_1_1_1_0_1_0 call n  (m + 1) w0 w4 w5 w6a w6l w6c w8 w9 w10 w60 w61 S = b26_l1_1_1_1_1_1_1_1_0_1_0 call n (r26_l1_1_1_1_1_1_1_1_0_1_0 call n  m) (r26_j1_1_1_1_1_1_1_1_1 call n ) w0 w4 w5 w6a w6l w6c w8 w9 w10 w60 w61 S := by kernel_rfl
theorem a26_j1_1_1_1_1_1_1_1_1 (call : CallA) (n : Nat)  (w0 : Option Pos) (w8 : Int) (w10 : Int) (S : AS) : r26_j1_1_1_1_1_1_1_1_1 call n  w0 w8 w10 S = b26_j1_1_1_1_1_1_1_1_1 call n  w0 w8 w10 S := by kernel_rfl
theorem a26_entry (call : CallA) (n : Nat) (x0 : Option Pos) (x1a : Option Pos) (x1l : Nat) (x1c : Cap) (S : AS) : evC E call n 26 (E.at 26 []) 0 (enumT 0 [(.ptr x0), (.sl x1a x1l x1c)]) S (retK E (E.fn 26)) = b26_entry call n (r26_l1_1_1_1_1_1_1_1_0_1_0 call n  n) x0 x1a x1l x1c S := by kernel_rfl
def J26_j1_1_1_1_1_1_1_1_1 (call : CallA) (n : Nat)  (w0 : Option Pos) (w8 : Int) (w10 : Int) (S : AS) : Option (AV × AS) := b26_j1_1_1_1_1_1_1_1_1 call n  w0 w8 w10 S
theorem h26_j1_1_1_1_1_1_1_1_1 (call : CallA) (n : Nat)  : r26_j1_1_1_1_1_1_1_1_1 call n  = J26_j1_1_1_1_1_1_1_1_1 call n  := by
  funext w0 w8 w10 S
  rw [J26_j1_1_1_1_1_1_1_1_1, a26_j1_1_1_1_1_1_1_1_1]
def J26_l1_1_1_1_1_1_1_1_0_1_0 (call : CallA) (n : Nat)  (m : Nat) : Option Pos → Int → Int → Option Pos → Nat → Cap → Int → Int → Int → Int → Int → AS → Option (AV × AS) := Nat.rec (motive := fun _ => Option Pos → Int → Int → Option Pos → Nat → Cap → Int → Int → Int → Int → Int → AS → Option (AV × AS)) (fun _ _ _ _ _ _ _ _ _ _ _ _ => none) (fun mK ih w0 w4 w5 w6a w6l w6c w8 w9 w10 w60 w61 S => b26_l1_1_1_1_1_1_1_1_0_1_0 call n ih (J26_j1_1_1_1_1_1_1_1_1 call n ) w0 w4 w5 w6a w6l w6c w8 w9 w10 w60 w61 S) m
theorem J26_l1_1_1_1_1_1_1_1_0_1_0_succ (call : CallA) (n : Nat)  (m : Nat) (w0 : Option Pos) (w4 : Int) (w5 : Int) (w6a : Option Pos) (w6l : Nat) (w6c : Cap) (w8 : Int) (w9 : Int) (w10 : Int) (w60 : Int) (w61 : Int) (S : AS) : J26_l1_1_1_1_1_1_1_1_0_1_0 call n  (m + 1) w0 w4 w5 w6a w6l w6c w8 w9 w10 w60 w61 S = b26_l1_1_1_1_1_1_1_1_0_1_0 call n (J26_l1_1_1_1_1_1_1_1_0_1_0 call n  m) (J26_j1_1_1_1_1_1_1_1_1 call n ) w0 w4 w5 w6a w6l w6c w8 w9 w10 w60 w61 S := rfl
theorem h26_l1_1_1_1_1_1_1_1_0_1_0 (call : CallA) (n : Nat)  (m : Nat) : r26_l1_1_1_1_1_1_1_1_0_1_0 call n  m = J26_l1_1_1_1_1_1_1_1_0_1_0 call n  m := by
  induction m with
  | zero => rfl
  | succ m ih =>
    funext w0 w4 w5 w6a w6l w6c w8 w9 w10 w60 w61 S
    rw [J26_l1_1_1_1_1_1_1_1_0_1_0_succ, a26_l1_1_1_1_1_1_1_1_0_1_0, h26_j1_1_1_1_1_1_1_1_1 call n , ih]
def J26 (call : CallA) (n : Nat) (x0 : Option Pos) (x1a : Option Pos) (x1l : Nat) (x1c : Cap) (S : AS) : Option (AV × AS) := b26_entry call n (J26_l1_1_1_1_1_1_1_1_0_1_0 call n  n) x0 x1a x1l x1c S
theorem run26 (o : Orc) (n : Nat) (args : List AV) (S : AS) (ho : o 26 args = none) : evF E o (n + 1) (.fn 26) args S = evC E (evF E o n) n 26 (E.at 26 []) 0 (enumT 0 args) S (retK E (E.fn 26)) := by
  rw [evF, ho]; kernel_rfl
theorem J26_eq (call : CallA) (n : Nat) (x0 : Option Pos) (x1a : Option Pos) (x1l : Nat) (x1c : Cap) (S : AS) : evC E call n 26 (E.at 26 []) 0 (enumT 0 [(.ptr x0), (.sl x1a x1l x1c)]) S (retK E (E.fn 26)) = J26 call n x0 x1a x1l x1c S := by
  rw [J26, a26_entry, h26_l1_1_1_1_1_1_1_1_0_1_0 call n  n]
theorem F26 {o : Orc} (n : Nat) (x0 : Option Pos) (x1a : Option Pos) (x1l : Nat) (x1c : Cap) (S : AS) (ho : ∀ args, o 26 args = none) : evF E o (n + 1) (.fn 26) [(.ptr x0), (.sl x1a x1l x1c)] S = J26 (evF E o n) n x0 x1a x1l x1c S := (run26 o n [(.ptr x0), (.sl x1a x1l x1c)] S (ho _)).trans (J26_eq _ _ x0 x1a x1l x1c S)
def b27_l1_1_0_1_0 (call : CallA) (n : Nat)  (l1_1_0_1_0 : Int → Option Pos → Nat → Cap → Int → AS → Option (AV × AS)) (w0 : Int) (w3a : Option Pos) (w3l : Nat) (w3c : Cap) (w4 : Int) (S : AS) : Option (AV × AS) :=
 cond (decide (w4 < ((w3l : Nat) : Int))) (
 ixSl 1 w3a w3l w4 fun p5 =>
 S.stn p5.1 p5.2 [(.int .u8 w0)] fun S6 =>
 l1_1_0_1_0 w0 w3a w3l w3c (IntKind.wrap .i64 (w4 + 1)) S6) (
 some ((.sl w3a w3l w3c), S))

def b27_entry (call : CallA) (n : Nat)  (l1_1_0_1_0 : Int → Option Pos → Nat → Cap → Int → AS → Option (AV × AS)) (x0 : Int) (S : AS) : Option (AV × AS) :=
 mkSl 1 384 384 fun l3 c4 =>
 newA S (.cells (zeros c4 [(.int .u8 0)])) fun b1 S2 =>
 l1_1_0_1_0 x0 (some (.rw b1, 0)) l3 (.ex c4) 0 S2

def r27_l1_1_0_1_0 (call : CallA) (n : Nat)  (m : Nat) (w0 : Int) (w3a : Option Pos) (w3l : Nat) (w3c : Cap) (w4 : Int) (S : AS) : Option (AV × AS) := loopN (evC E call n 27 (E.at 27 [1, 1, 0, 1, 0, 0]) 0) [0, 3, 4] m [(0, (.int .u8 w0)), (3, (.sl w3a w3l w3c)), (4, (.int .i64 w4))] S (kBlk 0 (kSeq E call n 27 (E.at 27 [1, 1, 1]) 0 (retK E (E.fn 27))))
theorem a27_l1_1_0_1_0 (call : CallA) (n : Nat)  (m : Nat) (w0 : Int) (w3a : Option Pos) (w3l : Nat) (w3c : Cap) (w4 : Int) (S : AS) : r27_l1_1_0_1_0 call n  (m + 1) w0 w3a w3l w3c w4 S = b27_l1_1_0_1_0 call n (r27_l1_1_0_1_0 call n  m) w0 w3a w3l w3c w4 S := by kernel_rfl
theorem a27_entry (call : CallA) (n : Nat) (x0 : Int) (S : AS) : evC E call n 27 (E.at 27 []) 0 (enumT 0 [(.int .u8 x0)]) S (retK E (E.fn 27)) = b27_entry call n (r27_l1_1_0_1_0 call n  n) x0 S := by kernel_rfl
def J27_l1_1_0_1_0 (call : CallA) (n : Nat)  (m : Nat) : Int → Option Pos → Nat → Cap → Int → AS → Option (AV × AS) := Nat.rec (motive := fun _ => Int → Option Pos → Nat → Cap → Int → AS → Option (AV × AS)) (fun _ _ _ _ _ _ => none) (fun mK ih w0 w3a w3l w3c w4 S => b27_l1_1_0_1_0 call n ih w0 w3a w3l w3c w4 S) m
theorem J27_l1_1_0_1_0_succ (call : CallA) (n : Nat)  (m : Nat) (w0 : Int) (w3a : Option Pos) (w3l : Nat) (w3c : Cap) (w4 : Int) (S : AS) : J27_l1_1_0_1_0 call n  (m + 1) w0 w3a w3l w3c w4 S = b27_l1_1_0_1_0 call n (J27_l1_1_0_1_0 call n  m) w0 w3a w3l w3c w4 S := rfl
theorem h27_l1_1_0_1_0 (call : CallA) (n : Nat)  (m : Nat) : r27_l1_1_0_1_0 call n  m = J27_l1_1_0_1_0 call n  m := by
  induction m with
  | zero => rfl
  | succ m ih =>
    funext w0 w3a w3l w3c w4 S
    rw [J27_l1_1_0_1_0_succ, a27_l1_1_0_1_0, ih]
def J27 (call : CallA) (n : Nat) (x0 : Int) (S : AS) : Option (AV × AS) := b27_entry call n (J27_l1_1_0_1_0 call n  n) x0 S
theorem run27 (o : Orc) (n : Nat) (args : List AV) (S : AS) (ho : o 27 args = none) : evF E o (n + 1) (.fn 27) args S = evC E (evF E o n) n 27 (E.at 27 []) 0 (enumT 0 args) S (retK E (E.fn 27)) := by
  rw [evF, ho]; kernel_rfl
theorem J27_eq (call : CallA) (n : Nat) (x0 : Int) (S : AS) : evC E call n 27 (E.at 27 []) 0 (enumT 0 [(.int .u8 x0)]) S (retK E (E.fn 27)) = J27 call n x0 S := by
  rw [J27, a27_entry, h27_l1_1_0_1_0 call n  n]
theorem F27 {o : Orc} (n : Nat) (x0 : Int) (S : AS) (ho : ∀ args, o 27 args = none) : evF E o (n + 1) (.fn 27) [(.int .u8 x0)] S = J27 (evF E o n) n x0 S := (run27 o n [(.int .u8 x0)] S (ho _)).trans (J27_eq _ _ x0 S)
end
end Go.Jn
