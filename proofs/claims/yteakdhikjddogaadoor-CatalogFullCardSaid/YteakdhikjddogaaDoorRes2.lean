/- Plain readings of the functions, and that they are what the evaluator does: by program. -/
import Derived.Test.YteakdhikjddogaaDoorGrRes
import Derived.Test.YteakdhikjddogaaDoorENV
import Derived.KernelRfl
set_option maxRecDepth 100000
set_option linter.unusedVariables false
namespace Go.Ct
open Go.Gr
noncomputable section
def b30_l1_1_0_1_0 (call : CallA) (n : Nat) (l1_1_0_1_0 : Option Pos → Nat → Cap → Option Pos → Nat → Cap → Int → Int → AS → Option (AV × AS)) (j1_1_1 : Option Pos → Nat → Cap → AS → Option (AV × AS)) (w2a : Option Pos) (w2l : Nat) (w2c : Cap) (w10a : Option Pos) (w10l : Nat) (w10c : Cap) (w11 : Int) (w12 : Int) (S : AS) : Option (AV × AS) :=
 cond (decide (w12 < w11)) (
 ixSl 4 w10a w10l w12 fun p3 =>
 S.ldn p3.1 p3.2 4 fun g4 =>
 newA S (.cells [(.int .u32 0), (.int .u64 0), (.str ([])), (.int .u64 0)]) fun b5 S6 =>
 ifO (g4.length = 4) <|
 S6.stn (.rw b5) 0 g4 fun S7 =>
 ldS S7 (.rw b5) 2 fun v8 =>
 newA S7 (.cells [(.str v8)]) fun b9 S10 =>
 appendA 1 16 S10 w2a w2l w2c 1 (firstA S10 1 1 (.sl (some (.rw b9, 0)) 1 (.ex 1))) fun v11a v11l v11c S12 =>
 l1_1_0_1_0 v11a v11l v11c w10a w10l w10c w11 (IntKind.wrap .i64 (w12 + 1)) S12) (
 j1_1_1 w2a w2l w2c S)

def b30_j1_1_1 (call : CallA) (n : Nat)  (w2a : Option Pos) (w2l : Nat) (w2c : Cap) (S : AS) : Option (AV × AS) :=
 callT call 46 [(.sl w2a w2l w2c)] S fun v14 S13 =>
 callL call 47 [(.sl w2a w2l w2c)] S13 fun v16a v16l v16c S15 =>
 some ((.sl v16a v16l v16c), S15)

def b30_entry (call : CallA) (n : Nat) (l1_1_0_1_0 : Option Pos → Nat → Cap → Option Pos → Nat → Cap → Int → Int → AS → Option (AV × AS)) (x0 : Option Pos) (S : AS) : Option (AV × AS) :=
 cond x0.isNone (
 some ((.sl none 0 (.ex 0)), S)) (
 gO x0 fun p1 =>
 ldL S p1.1 p1.2 fun v2a v2l v2c =>
 l1_1_0_1_0 none 0 (.ex 0) v2a v2l v2c ((v2l : Nat) : Int) 0 S)

def r30_l1_1_0_1_0 (call : CallA) (n : Nat)  (m : Nat) (w2a : Option Pos) (w2l : Nat) (w2c : Cap) (w10a : Option Pos) (w10l : Nat) (w10c : Cap) (w11 : Int) (w12 : Int) (S : AS) : Option (AV × AS) := loopN (evC E call n 30 (E.at 30 [1, 1, 0, 1, 0, 0]) 0) [2, 10, 11, 12] m [(2, (.sl w2a w2l w2c)), (10, (.sl w10a w10l w10c)), (11, (.int .i64 w11)), (12, (.int .i64 w12))] S (kBlk 0 (kSeq E call n 30 (E.at 30 [1, 1, 1]) 0 (retK E (E.fn 30))))
def r30_j1_1_1 (call : CallA) (n : Nat)  (w2a : Option Pos) (w2l : Nat) (w2c : Cap) (S : AS) : Option (AV × AS) := evC E call n 30 (E.at 30 [1, 1, 1]) 0 [(2, (.sl w2a w2l w2c))] S (retK E (E.fn 30))
theorem a30_l1_1_0_1_0 (call : CallA) (n : Nat)  (m : Nat) (w2a : Option Pos) (w2l : Nat) (w2c : Cap) (w10a : Option Pos) (w10l : Nat) (w10c : Cap) (w11 : Int) (w12 : Int) (S : AS) : r30_l1_1_0_1_0 call n  (m + 1) w2a w2l w2c w10a w10l w10c w11 w12 S = b30_l1_1_0_1_0 call n (r30_l1_1_0_1_0 call n  m) (r30_j1_1_1 call n ) w2a w2l w2c w10a w10l w10c w11 w12 S := by kernel_rfl
theorem a30_j1_1_1 (call : CallA) (n : Nat)  (w2a : Option Pos) (w2l : Nat) (w2c : Cap) (S : AS) : r30_j1_1_1 call n  w2a w2l w2c S = b30_j1_1_1 call n  w2a w2l w2c S := by kernel_rfl
theorem a30_entry (call : CallA) (n : Nat) (x0 : Option Pos) (S : AS) : evC E call n 30 (E.at 30 []) 0 (enumT 0 [(.ptr x0)]) S (retK E (E.fn 30)) = b30_entry call n (r30_l1_1_0_1_0 call n  n) x0 S := by kernel_rfl
def J30_j1_1_1 (call : CallA) (n : Nat)  (w2a : Option Pos) (w2l : Nat) (w2c : Cap) (S : AS) : Option (AV × AS) := b30_j1_1_1 call n  w2a w2l w2c S
theorem h30_j1_1_1 (call : CallA) (n : Nat)  : r30_j1_1_1 call n  = J30_j1_1_1 call n  := by
  funext w2a w2l w2c S
  rw [J30_j1_1_1, a30_j1_1_1]
def J30_l1_1_0_1_0 (call : CallA) (n : Nat)  (m : Nat) : Option Pos → Nat → Cap → Option Pos → Nat → Cap → Int → Int → AS → Option (AV × AS) := Nat.rec (motive := fun _ => Option Pos → Nat → Cap → Option Pos → Nat → Cap → Int → Int → AS → Option (AV × AS)) (fun _ _ _ _ _ _ _ _ _ => none) (fun _ ih w2a w2l w2c w10a w10l w10c w11 w12 S => b30_l1_1_0_1_0 call n ih (J30_j1_1_1 call n ) w2a w2l w2c w10a w10l w10c w11 w12 S) m
theorem J30_l1_1_0_1_0_succ (call : CallA) (n : Nat)  (m : Nat) (w2a : Option Pos) (w2l : Nat) (w2c : Cap) (w10a : Option Pos) (w10l : Nat) (w10c : Cap) (w11 : Int) (w12 : Int) (S : AS) : J30_l1_1_0_1_0 call n  (m + 1) w2a w2l w2c w10a w10l w10c w11 w12 S = b30_l1_1_0_1_0 call n (J30_l1_1_0_1_0 call n  m) (J30_j1_1_1 call n ) w2a w2l w2c w10a w10l w10c w11 w12 S := rfl
theorem h30_l1_1_0_1_0 (call : CallA) (n : Nat)  (m : Nat) : r30_l1_1_0_1_0 call n  m = J30_l1_1_0_1_0 call n  m := by
  induction m with
  | zero => rfl
  | succ m ih =>
    funext w2a w2l w2c w10a w10l w10c w11 w12 S
    rw [J30_l1_1_0_1_0_succ, a30_l1_1_0_1_0, h30_j1_1_1 call n , ih]
def J30 (call : CallA) (n : Nat) (x0 : Option Pos) (S : AS) : Option (AV × AS) := b30_entry call n (J30_l1_1_0_1_0 call n  n) x0 S
theorem run30 (o : Orc) (n : Nat) (args : List AV) (S : AS) (ho : o 30 args = none) : evF E o (n + 1) (.fn 30) args S = evC E (evF E o n) n 30 (E.at 30 []) 0 (enumT 0 args) S (retK E (E.fn 30)) := by
  rw [evF, ho]; kernel_rfl
theorem J30_eq (call : CallA) (n : Nat) (x0 : Option Pos) (S : AS) : evC E call n 30 (E.at 30 []) 0 (enumT 0 [(.ptr x0)]) S (retK E (E.fn 30)) = J30 call n x0 S := by
  rw [J30, a30_entry, h30_l1_1_0_1_0 call n  n]
theorem F30 {o : Orc} (n : Nat) (x0 : Option Pos) (S : AS) (ho : ∀ args, o 30 args = none) : evF E o (n + 1) (.fn 30) [(.ptr x0)] S = J30 (evF E o n) n x0 S := (run30 o n [(.ptr x0)] S (ho _)).trans (J30_eq _ _ x0 S)
def b31_l1_1_1_1_0_1_0 (call : CallA) (n : Nat) (l1_1_1_1_0_1_0 : Option Pos → Nat → Cap → Option Pos → Nat → Cap → Int → Int → AS → Option (AV × AS)) (w3a : Option Pos) (w3l : Nat) (w3c : Cap) (w30a : Option Pos) (w30l : Nat) (w30c : Cap) (w31 : Int) (w32 : Int) (S : AS) : Option (AV × AS) :=
 cond (decide (w32 < w31)) (
 ixSl 4 w30a w30l w32 fun p20 =>
 S.ldn p20.1 p20.2 4 fun g21 =>
 newA S (.cells [(.int .u32 0), (.int .u64 0), (.str ([])), (.int .u64 0)]) fun b22 S23 =>
 ifO (g21.length = 4) <|
 S23.stn (.rw b22) 0 g21 fun S24 =>
 ldI .u32 S24 (.rw b22) 0 fun v25 =>
 callL call 48 [(.sl w3a w3l w3c), (.int .u64 (IntKind.wrap .u64 v25)), (.int .i64 4)] S24 fun v27a v27l v27c S26 =>
 ldI .u64 S26 (.rw b22) 1 fun v28 =>
 ldI .u64 S24 (.rw b22) 1 fun v29 =>
 cond (AV.beq (.int .u64 v29) (.int .u64 v28)) (
 callL call 48 [(.sl v27a v27l v27c), (.int .u64 v28), (.int .i64 8)] S26 fun v31a v31l v31c S30 =>
 ldS S30 (.rw b22) 2 fun v32 =>
 appendA 1 1 S30 v31a v31l v31c v32.length (firstA S30 1 v32.length (.str v32)) fun v33a v33l v33c S34 =>
 ldI .u64 S34 (.rw b22) 3 fun v35 =>
 ldI .u64 S30 (.rw b22) 3 fun v36 =>
 cond (AV.beq (.int .u64 v36) (.int .u64 v35)) (
 callL call 48 [(.sl v33a v33l v33c), (.int .u64 v35), (.int .i64 8)] S34 fun v38a v38l v38c S37 =>
 l1_1_1_1_0_1_0 v38a v38l v38c w30a w30l w30c w31 (IntKind.wrap .i64 (w32 + 1)) S37) none) none) (
 some ((.sl w3a w3l w3c), S))

def b31_entry (call : CallA) (n : Nat) (l1_1_1_1_0_1_0 : Option Pos → Nat → Cap → Option Pos → Nat → Cap → Int → Int → AS → Option (AV × AS)) (x0 : Option Pos) (S : AS) : Option (AV × AS) :=
 cond x0.isNone (
 some ((.sl none 0 (.ex 0)), S)) (
 newA S (.cells [(.int .u8 67), (.int .u8 65), (.int .u8 84), (.int .u8 49)]) fun b1 S2 =>
 convLL S2 (some (.rw b1, 0)) 4 (.ex 4) fun v4a v4l v4c S3 =>
 callI .u32 call 29 [(.ptr x0)] S3 fun v6 S5 =>
 callL call 48 [(.sl v4a v4l v4c), (.int .u64 (IntKind.wrap .u64 v6)), (.int .i64 4)] S5 fun v8a v8l v8c S7 =>
 gO x0 fun p9 =>
 ldI .u64 S7 p9.1 (p9.2 + 2) fun v10 =>
 callL call 48 [(.sl v8a v8l v8c), (.int .u64 v10), (.int .i64 8)] S7 fun v12a v12l v12c S11 =>
 gO x0 fun p13 =>
 ldL S11 p13.1 p13.2 fun v14a v14l v14c =>
 ldL S7 p13.1 p13.2 fun v15a v15l v15c =>
 cond (AV.beq (.sl v15a v15l v15c) (.sl v14a v14l v14c)) (
 cond (AV.beq (.int .i64 ((v14l : Nat) : Int)) (.int .i64 ((v14l : Nat) : Int))) (
 callL call 48 [(.sl v12a v12l v12c), (.int .u64 (IntKind.wrap .u64 ((v14l : Nat) : Int))), (.int .i64 4)] S11 fun v17a v17l v17c S16 =>
 gO x0 fun p18 =>
 ldL S16 p18.1 p18.2 fun v19a v19l v19c =>
 l1_1_1_1_0_1_0 v17a v17l v17c v19a v19l v19c ((v19l : Nat) : Int) 0 S16) none) none)

def r31_l1_1_1_1_0_1_0 (call : CallA) (n : Nat)  (m : Nat) (w3a : Option Pos) (w3l : Nat) (w3c : Cap) (w30a : Option Pos) (w30l : Nat) (w30c : Cap) (w31 : Int) (w32 : Int) (S : AS) : Option (AV × AS) := loopN (evC E call n 31 (E.at 31 [1, 1, 1, 1, 0, 1, 0, 0]) 0) [3, 30, 31, 32] m [(3, (.sl w3a w3l w3c)), (30, (.sl w30a w30l w30c)), (31, (.int .i64 w31)), (32, (.int .i64 w32))] S (kBlk 0 (kSeq E call n 31 (E.at 31 [1, 1, 1, 1, 1]) 0 (retK E (E.fn 31))))
theorem a31_l1_1_1_1_0_1_0 (call : CallA) (n : Nat)  (m : Nat) (w3a : Option Pos) (w3l : Nat) (w3c : Cap) (w30a : Option Pos) (w30l : Nat) (w30c : Cap) (w31 : Int) (w32 : Int) (S : AS) : r31_l1_1_1_1_0_1_0 call n  (m + 1) w3a w3l w3c w30a w30l w30c w31 w32 S = b31_l1_1_1_1_0_1_0 call n (r31_l1_1_1_1_0_1_0 call n  m) w3a w3l w3c w30a w30l w30c w31 w32 S := by kernel_rfl
theorem a31_entry (call : CallA) (n : Nat) (x0 : Option Pos) (S : AS) : evC E call n 31 (E.at 31 []) 0 (enumT 0 [(.ptr x0)]) S (retK E (E.fn 31)) = b31_entry call n (r31_l1_1_1_1_0_1_0 call n  n) x0 S := by kernel_rfl
def J31_l1_1_1_1_0_1_0 (call : CallA) (n : Nat)  (m : Nat) : Option Pos → Nat → Cap → Option Pos → Nat → Cap → Int → Int → AS → Option (AV × AS) := Nat.rec (motive := fun _ => Option Pos → Nat → Cap → Option Pos → Nat → Cap → Int → Int → AS → Option (AV × AS)) (fun _ _ _ _ _ _ _ _ _ => none) (fun _ ih w3a w3l w3c w30a w30l w30c w31 w32 S => b31_l1_1_1_1_0_1_0 call n ih w3a w3l w3c w30a w30l w30c w31 w32 S) m
theorem J31_l1_1_1_1_0_1_0_succ (call : CallA) (n : Nat)  (m : Nat) (w3a : Option Pos) (w3l : Nat) (w3c : Cap) (w30a : Option Pos) (w30l : Nat) (w30c : Cap) (w31 : Int) (w32 : Int) (S : AS) : J31_l1_1_1_1_0_1_0 call n  (m + 1) w3a w3l w3c w30a w30l w30c w31 w32 S = b31_l1_1_1_1_0_1_0 call n (J31_l1_1_1_1_0_1_0 call n  m) w3a w3l w3c w30a w30l w30c w31 w32 S := rfl
theorem h31_l1_1_1_1_0_1_0 (call : CallA) (n : Nat)  (m : Nat) : r31_l1_1_1_1_0_1_0 call n  m = J31_l1_1_1_1_0_1_0 call n  m := by
  induction m with
  | zero => rfl
  | succ m ih =>
    funext w3a w3l w3c w30a w30l w30c w31 w32 S
    rw [J31_l1_1_1_1_0_1_0_succ, a31_l1_1_1_1_0_1_0, ih]
def J31 (call : CallA) (n : Nat) (x0 : Option Pos) (S : AS) : Option (AV × AS) := b31_entry call n (J31_l1_1_1_1_0_1_0 call n  n) x0 S
theorem run31 (o : Orc) (n : Nat) (args : List AV) (S : AS) (ho : o 31 args = none) : evF E o (n + 1) (.fn 31) args S = evC E (evF E o n) n 31 (E.at 31 []) 0 (enumT 0 args) S (retK E (E.fn 31)) := by
  rw [evF, ho]; kernel_rfl
theorem J31_eq (call : CallA) (n : Nat) (x0 : Option Pos) (S : AS) : evC E call n 31 (E.at 31 []) 0 (enumT 0 [(.ptr x0)]) S (retK E (E.fn 31)) = J31 call n x0 S := by
  rw [J31, a31_entry, h31_l1_1_1_1_0_1_0 call n  n]
theorem F31 {o : Orc} (n : Nat) (x0 : Option Pos) (S : AS) (ho : ∀ args, o 31 args = none) : evF E o (n + 1) (.fn 31) [(.ptr x0)] S = J31 (evF E o n) n x0 S := (run31 o n [(.ptr x0)] S (ho _)).trans (J31_eq _ _ x0 S)
def b32_entry (call : CallA) (n : Nat)  (x0 : Option Pos) (S : AS) : Option (AV × AS) :=
 cond x0.isNone (
 some ((.ptr none), S)) (
 drawA S 16 fun b1 S2 =>
 gO x0 fun p3 =>
 ldL S2 p3.1 p3.2 fun v4a v4l v4c =>
 callL call 43 [(.sl v4a v4l v4c)] S2 fun v6a v6l v6c S5 =>
 gO x0 fun p7 =>
 ldI .u64 S5 p7.1 (p7.2 + 1) fun v8 =>
 ldI .u64 S2 p7.1 (p7.2 + 1) fun v9 =>
 cond (AV.beq (.int .u64 v9) (.int .u64 v8)) (
 gO x0 fun p10 =>
 ldI .u64 S5 p10.1 (p10.2 + 2) fun v11 =>
 ldI .u64 S2 p10.1 (p10.2 + 2) fun v12 =>
 cond (AV.beq (.int .u64 v12) (.int .u64 v11)) (
 layA S5 (b1 + 14) (.cells [(.sl v6a v6l v6c), (.int .u64 v8), (.int .u64 v11)]) fun S13 =>
 some ((.ptr (some ((.rw (b1 + 14)), 0))), S13)) none) none)

theorem a32_entry (call : CallA) (n : Nat) (x0 : Option Pos) (S : AS) : evC E call n 32 (E.at 32 []) 0 (enumT 0 [(.ptr x0)]) S (retK E (E.fn 32)) = b32_entry call n  x0 S := by kernel_rfl
def J32 (call : CallA) (n : Nat) (x0 : Option Pos) (S : AS) : Option (AV × AS) := b32_entry call n  x0 S
theorem run32 (o : Orc) (n : Nat) (args : List AV) (S : AS) (ho : o 32 args = none) : evF E o (n + 1) (.fn 32) args S = evC E (evF E o n) n 32 (E.at 32 []) 0 (enumT 0 args) S (retK E (E.fn 32)) := by
  rw [evF, ho]; kernel_rfl
theorem J32_eq (call : CallA) (n : Nat) (x0 : Option Pos) (S : AS) : evC E call n 32 (E.at 32 []) 0 (enumT 0 [(.ptr x0)]) S (retK E (E.fn 32)) = J32 call n x0 S := by
  rw [J32, a32_entry]
theorem F32 {o : Orc} (n : Nat) (x0 : Option Pos) (S : AS) (ho : ∀ args, o 32 args = none) : evF E o (n + 1) (.fn 32) [(.ptr x0)] S = J32 (evF E o n) n x0 S := (run32 o n [(.ptr x0)] S (ho _)).trans (J32_eq _ _ x0 S)
def b33_entry (call : CallA) (n : Nat)  (x0 : List AV) (S : AS) : Option (AV × AS) :=
 ifO (x0.length = 4) <|
 newA S (.cells x0) fun b1 S2 =>
 ldI .u32 S2 (.rw b1) 0 fun v3 =>
 callS call 49 [(.int .u64 (IntKind.wrap .u64 v3)), (.int .i64 10)] S2 fun v5 S4 =>
 ifO (([115]).length + v5.length ≤ 9223372036854775807) <|
 some ((.str (([115]) ++ v5)), S4)

theorem a33_entry (call : CallA) (n : Nat) (x0 : List AV) (S : AS) : evC E call n 33 (E.at 33 []) 0 (enumT 0 [(.agg x0)]) S (retK E (E.fn 33)) = b33_entry call n  x0 S := by kernel_rfl
def J33 (call : CallA) (n : Nat) (x0 : List AV) (S : AS) : Option (AV × AS) := b33_entry call n  x0 S
theorem run33 (o : Orc) (n : Nat) (args : List AV) (S : AS) (ho : o 33 args = none) : evF E o (n + 1) (.fn 33) args S = evC E (evF E o n) n 33 (E.at 33 []) 0 (enumT 0 args) S (retK E (E.fn 33)) := by
  rw [evF, ho]; kernel_rfl
theorem J33_eq (call : CallA) (n : Nat) (x0 : List AV) (S : AS) : evC E call n 33 (E.at 33 []) 0 (enumT 0 [(.agg x0)]) S (retK E (E.fn 33)) = J33 call n x0 S := by
  rw [J33, a33_entry]
theorem F33 {o : Orc} (n : Nat) (x0 : List AV) (S : AS) (ho : ∀ args, o 33 args = none) : evF E o (n + 1) (.fn 33) [(.agg x0)] S = J33 (evF E o n) n x0 S := (run33 o n [(.agg x0)] S (ho _)).trans (J33_eq _ _ x0 S)
def b34_entry (call : CallA) (n : Nat)  (x0a : Option Pos) (x0l : Nat) (x0c : Cap) (S : AS) : Option (AV × AS) :=
 newA S (.cells [(.sl x0a x0l x0c)]) fun b1 S2 =>
 some ((.fn 50 [] [(.ptr (some ((.rw b1), 0)))]), S2)

theorem a34_entry (call : CallA) (n : Nat) (x0a : Option Pos) (x0l : Nat) (x0c : Cap) (S : AS) : evC E call n 34 (E.at 34 []) 0 (enumT 0 [(.sl x0a x0l x0c)]) S (retK E (E.fn 34)) = b34_entry call n  x0a x0l x0c S := by kernel_rfl
def J34 (call : CallA) (n : Nat) (x0a : Option Pos) (x0l : Nat) (x0c : Cap) (S : AS) : Option (AV × AS) := b34_entry call n  x0a x0l x0c S
theorem run34 (o : Orc) (n : Nat) (args : List AV) (S : AS) (ho : o 34 args = none) : evF E o (n + 1) (.fn 34) args S = evC E (evF E o n) n 34 (E.at 34 []) 0 (enumT 0 args) S (retK E (E.fn 34)) := by
  rw [evF, ho]; kernel_rfl
theorem J34_eq (call : CallA) (n : Nat) (x0a : Option Pos) (x0l : Nat) (x0c : Cap) (S : AS) : evC E call n 34 (E.at 34 []) 0 (enumT 0 [(.sl x0a x0l x0c)]) S (retK E (E.fn 34)) = J34 call n x0a x0l x0c S := by
  rw [J34, a34_entry]
theorem F34 {o : Orc} (n : Nat) (x0a : Option Pos) (x0l : Nat) (x0c : Cap) (S : AS) (ho : ∀ args, o 34 args = none) : evF E o (n + 1) (.fn 34) [(.sl x0a x0l x0c)] S = J34 (evF E o n) n x0a x0l x0c S := (run34 o n [(.sl x0a x0l x0c)] S (ho _)).trans (J34_eq _ _ x0a x0l x0c S)
def b35_l1_1_1_1_0_1_0 (call : CallA) (n : Nat) (l1_1_1_1_0_1_0 : Option Pos → Nat → Cap → Option Pos → Int → Int → AS → Option (AV × AS)) (w1a : Option Pos) (w1l : Nat) (w1c : Cap) (w3 : Option Pos) (w8 : Int) (w9 : Int) (S : AS) : Option (AV × AS) :=
 cond (decide (w9 < ((w1l : Nat) : Int))) (
 ixSl 1 w1a w1l w9 fun p9 =>
 ldI .u64 S p9.1 p9.2 fun v10 =>
 gO w3 fun p11 =>
 ldI .u64 S p11.1 p11.2 fun v12 =>
 nz v12 <|
 ixSl 1 w1a w1l (IntKind.wrap .i64 (w9 - 1)) fun p13 =>
 ldI .u64 S p13.1 p13.2 fun v14 =>
 gO w3 fun p15 =>
 ldI .u64 S p15.1 p15.2 fun v16 =>
 nz v16 <|
 cond ((IntKind.wrap .u64 (Int.tdiv v10 v12)) != (IntKind.wrap .u64 (Int.tdiv v14 v16))) (
 l1_1_1_1_0_1_0 w1a w1l w1c w3 (IntKind.wrap .i64 (w8 + 1)) (IntKind.wrap .i64 (w9 + 1)) S) (
 l1_1_1_1_0_1_0 w1a w1l w1c w3 w8 (IntKind.wrap .i64 (w9 + 1)) S)) (
 gO w3 fun p17 =>
 ldI .i64 S p17.1 (p17.2 + 1) fun v18 =>
 some ((.bool (decide (w8 < v18))), S))

def b35_entry (call : CallA) (n : Nat) (l1_1_1_1_0_1_0 : Option Pos → Nat → Cap → Option Pos → Int → Int → AS → Option (AV × AS)) (x0 : List AV) (x1a : Option Pos) (x1l : Nat) (x1c : Cap) (x2 : Int) (S : AS) : Option (AV × AS) :=
 ifO (x0.length = 2) <|
 newA S (.cells x0) fun b1 S2 =>
 ixSl 1 x1a x1l x2 fun p3 =>
 ldI .u64 S2 p3.1 p3.2 fun v4 =>
 ldI .u64 S2 (.rw b1) 0 fun v5 =>
 nz v5 <|
 cond (decide ((IntKind.wrap .i64 (x2 + 1)) < ((x1l : Nat) : Int))) (
 ixSl 1 x1a x1l (IntKind.wrap .i64 (x2 + 1)) fun p6 =>
 ldI .u64 S2 p6.1 p6.2 fun v7 =>
 ldI .u64 S2 (.rw b1) 0 fun v8 =>
 nz v8 <|
 cond ((IntKind.wrap .u64 (Int.tdiv v7 v8)) == (IntKind.wrap .u64 (Int.tdiv v4 v5))) (
 some ((.bool false), S2)) (
 l1_1_1_1_0_1_0 x1a x1l x1c (some ((.rw b1), 0)) 0 (IntKind.wrap .i64 (x2 + 1)) S2)) (
 l1_1_1_1_0_1_0 x1a x1l x1c (some ((.rw b1), 0)) 0 (IntKind.wrap .i64 (x2 + 1)) S2)

def r35_l1_1_1_1_0_1_0 (call : CallA) (n : Nat)  (m : Nat) (w1a : Option Pos) (w1l : Nat) (w1c : Cap) (w3 : Option Pos) (w8 : Int) (w9 : Int) (S : AS) : Option (AV × AS) := loopN (evC E call n 35 (E.at 35 [1, 1, 1, 1, 0, 1, 0, 0]) 0) [1, 3, 8, 9] m [(1, (.sl w1a w1l w1c)), (3, (.ptr w3)), (8, (.int .i64 w8)), (9, (.int .i64 w9))] S (kBlk 0 (kSeq E call n 35 (E.at 35 [1, 1, 1, 1, 1]) 0 (retK E (E.fn 35))))
theorem a35_l1_1_1_1_0_1_0 (call : CallA) (n : Nat)  (m : Nat) (w1a : Option Pos) (w1l : Nat) (w1c : Cap) (w3 : Option Pos) (w8 : Int) (w9 : Int) (S : AS) : r35_l1_1_1_1_0_1_0 call n  (m + 1) w1a w1l w1c w3 w8 w9 S = b35_l1_1_1_1_0_1_0 call n (r35_l1_1_1_1_0_1_0 call n  m) w1a w1l w1c w3 w8 w9 S := by kernel_rfl
theorem a35_entry (call : CallA) (n : Nat) (x0 : List AV) (x1a : Option Pos) (x1l : Nat) (x1c : Cap) (x2 : Int) (S : AS) : evC E call n 35 (E.at 35 []) 0 (enumT 0 [(.agg x0), (.sl x1a x1l x1c), (.int .i64 x2)]) S (retK E (E.fn 35)) = b35_entry call n (r35_l1_1_1_1_0_1_0 call n  n) x0 x1a x1l x1c x2 S := by kernel_rfl
def J35_l1_1_1_1_0_1_0 (call : CallA) (n : Nat)  (m : Nat) : Option Pos → Nat → Cap → Option Pos → Int → Int → AS → Option (AV × AS) := Nat.rec (motive := fun _ => Option Pos → Nat → Cap → Option Pos → Int → Int → AS → Option (AV × AS)) (fun _ _ _ _ _ _ _ => none) (fun _ ih w1a w1l w1c w3 w8 w9 S => b35_l1_1_1_1_0_1_0 call n ih w1a w1l w1c w3 w8 w9 S) m
theorem J35_l1_1_1_1_0_1_0_succ (call : CallA) (n : Nat)  (m : Nat) (w1a : Option Pos) (w1l : Nat) (w1c : Cap) (w3 : Option Pos) (w8 : Int) (w9 : Int) (S : AS) : J35_l1_1_1_1_0_1_0 call n  (m + 1) w1a w1l w1c w3 w8 w9 S = b35_l1_1_1_1_0_1_0 call n (J35_l1_1_1_1_0_1_0 call n  m) w1a w1l w1c w3 w8 w9 S := rfl
theorem h35_l1_1_1_1_0_1_0 (call : CallA) (n : Nat)  (m : Nat) : r35_l1_1_1_1_0_1_0 call n  m = J35_l1_1_1_1_0_1_0 call n  m := by
  induction m with
  | zero => rfl
  | succ m ih =>
    funext w1a w1l w1c w3 w8 w9 S
    rw [J35_l1_1_1_1_0_1_0_succ, a35_l1_1_1_1_0_1_0, ih]
def J35 (call : CallA) (n : Nat) (x0 : List AV) (x1a : Option Pos) (x1l : Nat) (x1c : Cap) (x2 : Int) (S : AS) : Option (AV × AS) := b35_entry call n (J35_l1_1_1_1_0_1_0 call n  n) x0 x1a x1l x1c x2 S
theorem run35 (o : Orc) (n : Nat) (args : List AV) (S : AS) (ho : o 35 args = none) : evF E o (n + 1) (.fn 35) args S = evC E (evF E o n) n 35 (E.at 35 []) 0 (enumT 0 args) S (retK E (E.fn 35)) := by
  rw [evF, ho]; kernel_rfl
theorem J35_eq (call : CallA) (n : Nat) (x0 : List AV) (x1a : Option Pos) (x1l : Nat) (x1c : Cap) (x2 : Int) (S : AS) : evC E call n 35 (E.at 35 []) 0 (enumT 0 [(.agg x0), (.sl x1a x1l x1c), (.int .i64 x2)]) S (retK E (E.fn 35)) = J35 call n x0 x1a x1l x1c x2 S := by
  rw [J35, a35_entry, h35_l1_1_1_1_0_1_0 call n  n]
theorem F35 {o : Orc} (n : Nat) (x0 : List AV) (x1a : Option Pos) (x1l : Nat) (x1c : Cap) (x2 : Int) (S : AS) (ho : ∀ args, o 35 args = none) : evF E o (n + 1) (.fn 35) [(.agg x0), (.sl x1a x1l x1c), (.int .i64 x2)] S = J35 (evF E o n) n x0 x1a x1l x1c x2 S := (run35 o n [(.agg x0), (.sl x1a x1l x1c), (.int .i64 x2)] S (ho _)).trans (J35_eq _ _ x0 x1a x1l x1c x2 S)
def b36_entry (call : CallA) (n : Nat)  (x0 : Option Pos) (x1 : Int) (S : AS) : Option (AV × AS) :=
 newA S (.cells [(.int .u32 x1)]) fun b1 S2 =>
 cond x0.isNone (
 some ((.int .i64 (-1)), S2)) (
 gO x0 fun p3 =>
 ldL S2 p3.1 p3.2 fun v4a v4l v4c =>
 callI .i64 call 51 [(.sl v4a v4l v4c), (.fn 52 [] [(.ptr (some ((.rw b1), 0)))])] S2 fun v6 S5 =>
 some ((.int .i64 v6), S5))

theorem a36_entry (call : CallA) (n : Nat) (x0 : Option Pos) (x1 : Int) (S : AS) : evC E call n 36 (E.at 36 []) 0 (enumT 0 [(.ptr x0), (.int .u32 x1)]) S (retK E (E.fn 36)) = b36_entry call n  x0 x1 S := by kernel_rfl
def J36 (call : CallA) (n : Nat) (x0 : Option Pos) (x1 : Int) (S : AS) : Option (AV × AS) := b36_entry call n  x0 x1 S
theorem run36 (o : Orc) (n : Nat) (args : List AV) (S : AS) (ho : o 36 args = none) : evF E o (n + 1) (.fn 36) args S = evC E (evF E o n) n 36 (E.at 36 []) 0 (enumT 0 args) S (retK E (E.fn 36)) := by
  rw [evF, ho]; kernel_rfl
theorem J36_eq (call : CallA) (n : Nat) (x0 : Option Pos) (x1 : Int) (S : AS) : evC E call n 36 (E.at 36 []) 0 (enumT 0 [(.ptr x0), (.int .u32 x1)]) S (retK E (E.fn 36)) = J36 call n x0 x1 S := by
  rw [J36, a36_entry]
theorem F36 {o : Orc} (n : Nat) (x0 : Option Pos) (x1 : Int) (S : AS) (ho : ∀ args, o 36 args = none) : evF E o (n + 1) (.fn 36) [(.ptr x0), (.int .u32 x1)] S = J36 (evF E o n) n x0 x1 S := (run36 o n [(.ptr x0), (.int .u32 x1)] S (ho _)).trans (J36_eq _ _ x0 x1 S)
def b37_entry (call : CallA) (n : Nat)  (x0a : Option Pos) (x0l : Nat) (x0c : Cap) (x1 : Int) (x2 : Int) (S : AS) : Option (AV × AS) :=
 slSl 4 x0a x0l x0c (some x1) (some x2) (some ((x0l : Nat) : Int)) fun v1a v1l v1c =>
 cond (x1 == x2) (
 some ((.sl x0a x0l x0c), S)) (
 slSl 4 x0a x0l x0c none (some x1) none fun v2a v2l v2c =>
 slSl 4 x0a x0l x0c (some x2) none none fun v3a v3l v3c =>
 appendA 4 40 S v2a v2l v2c v3l (firstA S 4 v3l (.sl v3a v3l v3c)) fun v4a v4l v4c S5 =>
 slSl 4 v4a v4l v4c (some ((v4l : Nat) : Int)) (some ((x0l : Nat) : Int)) none fun v6a v6l v6c =>
 clearA [(.int .u32 0), (.int .u64 0), (.str ([])), (.int .u64 0)] S5 v6a v6l fun S7 =>
 some ((.sl v4a v4l v4c), S7))

theorem a37_entry (call : CallA) (n : Nat) (x0a : Option Pos) (x0l : Nat) (x0c : Cap) (x1 : Int) (x2 : Int) (S : AS) : evC E call n 37 (E.at 37 []) 0 (enumT 0 [(.sl x0a x0l x0c), (.int .i64 x1), (.int .i64 x2)]) S (retK E (E.fn 37)) = b37_entry call n  x0a x0l x0c x1 x2 S := by kernel_rfl
def J37 (call : CallA) (n : Nat) (x0a : Option Pos) (x0l : Nat) (x0c : Cap) (x1 : Int) (x2 : Int) (S : AS) : Option (AV × AS) := b37_entry call n  x0a x0l x0c x1 x2 S
theorem run37 (o : Orc) (n : Nat) (args : List AV) (S : AS) (ho : o 37 args = none) : evF E o (n + 1) (.fn 37) args S = evC E (evF E o n) n 37 (E.at 37 []) 0 (enumT 0 args) S (retK E (E.fn 37)) := by
  rw [evF, ho]; kernel_rfl
theorem J37_eq (call : CallA) (n : Nat) (x0a : Option Pos) (x0l : Nat) (x0c : Cap) (x1 : Int) (x2 : Int) (S : AS) : evC E call n 37 (E.at 37 []) 0 (enumT 0 [(.sl x0a x0l x0c), (.int .i64 x1), (.int .i64 x2)]) S (retK E (E.fn 37)) = J37 call n x0a x0l x0c x1 x2 S := by
  rw [J37, a37_entry]
theorem F37 {o : Orc} (n : Nat) (x0a : Option Pos) (x0l : Nat) (x0c : Cap) (x1 : Int) (x2 : Int) (S : AS) (ho : ∀ args, o 37 args = none) : evF E o (n + 1) (.fn 37) [(.sl x0a x0l x0c), (.int .i64 x1), (.int .i64 x2)] S = J37 (evF E o n) n x0a x0l x0c x1 x2 S := (run37 o n [(.sl x0a x0l x0c), (.int .i64 x1), (.int .i64 x2)] S (ho _)).trans (J37_eq _ _ x0a x0l x0c x1 x2 S)
def b38_entry (call : CallA) (n : Nat)  (x0 : Option Pos) (x1 : Int) (x2 : List UInt8) (x3 : Int) (S : AS) : Option (AV × AS) :=
 cond (((x2.length : Nat) : Int) != 32) (
 some (.tup [(.int .u32 0), (.int .i64 2)], S)) (
 gO x0 fun p1 =>
 ldI .u64 S p1.1 (p1.2 + 1) fun v2 =>
 cond (decide (v2 > 0)) (
 gO x0 fun p3 =>
 ldI .u64 S p3.1 (p3.2 + 2) fun v4 =>
 cond (decide (x1 ≤ v4)) (
 some (.tup [(.int .u32 0), (.int .i64 182)], S)) (
 gO x0 fun p5 =>
 ldL S p5.1 p5.2 fun v6a v6l v6c =>
 cond (decide (((v6l : Nat) : Int) ≥ 256)) (
 some (.tup [(.int .u32 0), (.int .i64 5)], S)) (
 gO x0 fun p7 =>
 ldI .u64 S p7.1 (p7.2 + 1) fun v8 =>
 cond (decide (v8 ≥ 4294967295)) (
 some (.tup [(.int .u32 0), (.int .i64 5)], S)) (
 gO x0 fun p9 =>
 ldI .u64 S p9.1 (p9.2 + 1) fun v10 =>
 gO x0 fun p11 =>
 S.stn p11.1 (p11.2 + 1) [(.int .u64 (IntKind.wrap .u64 (v10 + 1)))] fun S12 =>
 gO x0 fun p13 =>
 S12.stn p13.1 (p13.2 + 2) [(.int .u64 x1)] fun S14 =>
 drawA S14 19 fun b15 S16 =>
 gO x0 fun p17 =>
 ldL S16 p17.1 p17.2 fun v18a v18l v18c =>
 gO x0 fun p19 =>
 ldI .u64 S16 p19.1 (p19.2 + 1) fun v20 =>
 layA S16 (b15 + 14) (.cells [(.int .u32 (IntKind.wrap .u32 v20)), (.int .u64 x1), (.str x2), (.int .u64 x3)]) fun S21 =>
 appendA 4 40 S21 v18a v18l v18c 1 (firstA S21 4 1 (.sl (some (.rw (b15 + 14), 0)) 1 (.ex 1))) fun v22a v22l v22c S23 =>
 gO x0 fun p24 =>
 S23.stn p24.1 p24.2 [(.sl v22a v22l v22c)] fun S25 =>
 gO x0 fun p26 =>
 ldI .u64 S25 p26.1 (p26.2 + 1) fun v27 =>
 some (.tup [(.int .u32 (IntKind.wrap .u32 v27)), (.int .i64 0)], S25))))) (
 gO x0 fun p28 =>
 ldL S p28.1 p28.2 fun v29a v29l v29c =>
 cond (decide (((v29l : Nat) : Int) ≥ 256)) (
 some (.tup [(.int .u32 0), (.int .i64 5)], S)) (
 gO x0 fun p30 =>
 ldI .u64 S p30.1 (p30.2 + 1) fun v31 =>
 cond (decide (v31 ≥ 4294967295)) (
 some (.tup [(.int .u32 0), (.int .i64 5)], S)) (
 gO x0 fun p32 =>
 ldI .u64 S p32.1 (p32.2 + 1) fun v33 =>
 gO x0 fun p34 =>
 S.stn p34.1 (p34.2 + 1) [(.int .u64 (IntKind.wrap .u64 (v33 + 1)))] fun S35 =>
 gO x0 fun p36 =>
 S35.stn p36.1 (p36.2 + 2) [(.int .u64 x1)] fun S37 =>
 drawA S37 19 fun b38 S39 =>
 gO x0 fun p40 =>
 ldL S39 p40.1 p40.2 fun v41a v41l v41c =>
 gO x0 fun p42 =>
 ldI .u64 S39 p42.1 (p42.2 + 1) fun v43 =>
 layA S39 (b38 + 14) (.cells [(.int .u32 (IntKind.wrap .u32 v43)), (.int .u64 x1), (.str x2), (.int .u64 x3)]) fun S44 =>
 appendA 4 40 S44 v41a v41l v41c 1 (firstA S44 4 1 (.sl (some (.rw (b38 + 14), 0)) 1 (.ex 1))) fun v45a v45l v45c S46 =>
 gO x0 fun p47 =>
 S46.stn p47.1 p47.2 [(.sl v45a v45l v45c)] fun S48 =>
 gO x0 fun p49 =>
 ldI .u64 S48 p49.1 (p49.2 + 1) fun v50 =>
 some (.tup [(.int .u32 (IntKind.wrap .u32 v50)), (.int .i64 0)], S48)))))

theorem a38_entry (call : CallA) (n : Nat) (x0 : Option Pos) (x1 : Int) (x2 : List UInt8) (x3 : Int) (S : AS) : evC E call n 38 (E.at 38 []) 0 (enumT 0 [(.ptr x0), (.int .u64 x1), (.str x2), (.int .u64 x3)]) S (retK E (E.fn 38)) = b38_entry call n  x0 x1 x2 x3 S := by kernel_rfl
def J38 (call : CallA) (n : Nat) (x0 : Option Pos) (x1 : Int) (x2 : List UInt8) (x3 : Int) (S : AS) : Option (AV × AS) := b38_entry call n  x0 x1 x2 x3 S
theorem run38 (o : Orc) (n : Nat) (args : List AV) (S : AS) (ho : o 38 args = none) : evF E o (n + 1) (.fn 38) args S = evC E (evF E o n) n 38 (E.at 38 []) 0 (enumT 0 args) S (retK E (E.fn 38)) := by
  rw [evF, ho]; kernel_rfl
theorem J38_eq (call : CallA) (n : Nat) (x0 : Option Pos) (x1 : Int) (x2 : List UInt8) (x3 : Int) (S : AS) : evC E call n 38 (E.at 38 []) 0 (enumT 0 [(.ptr x0), (.int .u64 x1), (.str x2), (.int .u64 x3)]) S (retK E (E.fn 38)) = J38 call n x0 x1 x2 x3 S := by
  rw [J38, a38_entry]
theorem F38 {o : Orc} (n : Nat) (x0 : Option Pos) (x1 : Int) (x2 : List UInt8) (x3 : Int) (S : AS) (ho : ∀ args, o 38 args = none) : evF E o (n + 1) (.fn 38) [(.ptr x0), (.int .u64 x1), (.str x2), (.int .u64 x3)] S = J38 (evF E o n) n x0 x1 x2 x3 S := (run38 o n [(.ptr x0), (.int .u64 x1), (.str x2), (.int .u64 x3)] S (ho _)).trans (J38_eq _ _ x0 x1 x2 x3 S)
def b39_l1_0_1_0 (call : CallA) (n : Nat) (l1_0_1_0 : Option Pos → Int → Int → Int → AS → Option (AV × AS)) (w0 : Option Pos) (w1 : Int) (w4 : Int) (w5 : Int) (S : AS) : Option (AV × AS) :=
 gO w0 fun p1 =>
 ldL S p1.1 p1.2 fun v2a v2l v2c =>
 cond (decide (w5 < ((v2l : Nat) : Int))) (
 gO w0 fun p3 =>
 ldL S p3.1 p3.2 fun v4a v4l v4c =>
 ixSl 4 v4a v4l w5 fun p5 =>
 ldI .u32 S p5.1 p5.2 fun v6 =>
 cond (v6 == w1) (
 drawA S 20 fun b7 S8 =>
 gO w0 fun p9 =>
 ldL S8 p9.1 p9.2 fun v10a v10l v10c =>
 slSl 4 v10a v10l v10c none (some w5) none fun v11a v11l v11c =>
 layA S8 (b7 + 1) (.cells []) fun S12 =>
 appendA 4 40 S12 (some (.rw (b7 + 1), 0)) 0 (.ex 0) v11l (firstA S12 4 v11l (.sl v11a v11l v11c)) fun v13a v13l v13c S14 =>
 gO w0 fun p15 =>
 ldL S14 p15.1 p15.2 fun v16a v16l v16c =>
 ldL S8 p15.1 p15.2 fun v17a v17l v17c =>
 cond (AV.beq (.sl v17a v17l v17c) (.sl v16a v16l v16c)) (
 slSl 4 v16a v16l v16c (some (IntKind.wrap .i64 (w5 + 1))) none none fun v18a v18l v18c =>
 appendA 4 40 S14 v13a v13l v13c v18l (firstA S14 4 v18l (.sl v18a v18l v18c)) fun v19a v19l v19c S20 =>
 gO w0 fun p21 =>
 S20.stn p21.1 p21.2 [(.sl v19a v19l v19c)] fun S22 =>
 some ((.int .i64 0), S22)) none) (
 l1_0_1_0 w0 w1 w4 (IntKind.wrap .i64 (w5 + 1)) S)) (
 some ((.int .i64 7), S))

def b39_entry (call : CallA) (n : Nat) (l1_0_1_0 : Option Pos → Int → Int → Int → AS → Option (AV × AS)) (x0 : Option Pos) (x1 : Int) (S : AS) : Option (AV × AS) :=
 l1_0_1_0 x0 x1 0 0 S

def r39_l1_0_1_0 (call : CallA) (n : Nat)  (m : Nat) (w0 : Option Pos) (w1 : Int) (w4 : Int) (w5 : Int) (S : AS) : Option (AV × AS) := loopN (evC E call n 39 (E.at 39 [1, 0, 1, 0, 0]) 0) [0, 1, 4, 5] m [(0, (.ptr w0)), (1, (.int .u32 w1)), (4, (.int .i64 w4)), (5, (.int .i64 w5))] S (kBlk 0 (kSeq E call n 39 (E.at 39 [1, 1]) 0 (retK E (E.fn 39))))
theorem a39_l1_0_1_0 (call : CallA) (n : Nat)  (m : Nat) (w0 : Option Pos) (w1 : Int) (w4 : Int) (w5 : Int) (S : AS) : r39_l1_0_1_0 call n  (m + 1) w0 w1 w4 w5 S = b39_l1_0_1_0 call n (r39_l1_0_1_0 call n  m) w0 w1 w4 w5 S := by kernel_rfl
theorem a39_entry (call : CallA) (n : Nat) (x0 : Option Pos) (x1 : Int) (S : AS) : evC E call n 39 (E.at 39 []) 0 (enumT 0 [(.ptr x0), (.int .u32 x1)]) S (retK E (E.fn 39)) = b39_entry call n (r39_l1_0_1_0 call n  n) x0 x1 S := by kernel_rfl
def J39_l1_0_1_0 (call : CallA) (n : Nat)  (m : Nat) : Option Pos → Int → Int → Int → AS → Option (AV × AS) := Nat.rec (motive := fun _ => Option Pos → Int → Int → Int → AS → Option (AV × AS)) (fun _ _ _ _ _ => none) (fun _ ih w0 w1 w4 w5 S => b39_l1_0_1_0 call n ih w0 w1 w4 w5 S) m
theorem J39_l1_0_1_0_succ (call : CallA) (n : Nat)  (m : Nat) (w0 : Option Pos) (w1 : Int) (w4 : Int) (w5 : Int) (S : AS) : J39_l1_0_1_0 call n  (m + 1) w0 w1 w4 w5 S = b39_l1_0_1_0 call n (J39_l1_0_1_0 call n  m) w0 w1 w4 w5 S := rfl
theorem h39_l1_0_1_0 (call : CallA) (n : Nat)  (m : Nat) : r39_l1_0_1_0 call n  m = J39_l1_0_1_0 call n  m := by
  induction m with
  | zero => rfl
  | succ m ih =>
    funext w0 w1 w4 w5 S
    rw [J39_l1_0_1_0_succ, a39_l1_0_1_0, ih]
def J39 (call : CallA) (n : Nat) (x0 : Option Pos) (x1 : Int) (S : AS) : Option (AV × AS) := b39_entry call n (J39_l1_0_1_0 call n  n) x0 x1 S
theorem run39 (o : Orc) (n : Nat) (args : List AV) (S : AS) (ho : o 39 args = none) : evF E o (n + 1) (.fn 39) args S = evC E (evF E o n) n 39 (E.at 39 []) 0 (enumT 0 args) S (retK E (E.fn 39)) := by
  rw [evF, ho]; kernel_rfl
theorem J39_eq (call : CallA) (n : Nat) (x0 : Option Pos) (x1 : Int) (S : AS) : evC E call n 39 (E.at 39 []) 0 (enumT 0 [(.ptr x0), (.int .u32 x1)]) S (retK E (E.fn 39)) = J39 call n x0 x1 S := by
  rw [J39, a39_entry, h39_l1_0_1_0 call n  n]
theorem F39 {o : Orc} (n : Nat) (x0 : Option Pos) (x1 : Int) (S : AS) (ho : ∀ args, o 39 args = none) : evF E o (n + 1) (.fn 39) [(.ptr x0), (.int .u32 x1)] S = J39 (evF E o n) n x0 x1 S := (run39 o n [(.ptr x0), (.int .u32 x1)] S (ho _)).trans (J39_eq _ _ x0 x1 S)
def b40_l1_1_1_1_0_1_0 (call : CallA) (n : Nat) (l1_1_1_1_0_1_0 : Option Pos → Option Pos → Option Pos → Nat → Cap → Int → AS → Option (AV × AS)) (j1_1_1_1_1 : Option Pos → Option Pos → Option Pos → Nat → Cap → AS → Option (AV × AS)) (w0 : Option Pos) (w3 : Option Pos) (w7a : Option Pos) (w7l : Nat) (w7c : Cap) (w8 : Int) (S : AS) : Option (AV × AS) :=
 gO w0 fun p6 =>
 ldL S p6.1 p6.2 fun v7a v7l v7c =>
 cond (decide (w8 < ((v7l : Nat) : Int))) (
 gO w0 fun p8 =>
 ldL S p8.1 p8.2 fun v9a v9l v9c =>
 ixSl 4 v9a v9l w8 fun p10 =>
 ldI .u64 S p10.1 (p10.2 + 1) fun v11 =>
 newA S (.cells [(.int .u64 v11)]) fun b12 S13 =>
 appendA 1 8 S13 w7a w7l w7c 1 (firstA S13 1 1 (.sl (some (.rw b12, 0)) 1 (.ex 1))) fun v14a v14l v14c S15 =>
 l1_1_1_1_0_1_0 w0 w3 v14a v14l v14c (IntKind.wrap .i64 (w8 + 1)) S15) (
 j1_1_1_1_1 w0 w3 w7a w7l w7c S)

def b40_j1_1_1_1_1 (call : CallA) (n : Nat) (l1_1_1_1_1_1_1_1_0_1_0 : Option Pos → Option Pos → Nat → Cap → Option Pos → Nat → Cap → Option Pos → Nat → Cap → Int → AS → Option (AV × AS)) (w0 : Option Pos) (w3 : Option Pos) (w7a : Option Pos) (w7l : Nat) (w7c : Cap) (S : AS) : Option (AV × AS) :=
 gO w3 fun p16 =>
 S.ldn p16.1 p16.2 2 fun g17 =>
 callL call 14 [(.agg g17), (.sl w7a w7l w7c)] S fun v19a v19l v19c S18 =>
 l1_1_1_1_1_1_1_1_0_1_0 w0 v19a v19l v19c none 0 (.ex 0) none 0 (.ex 0) 0 S18

def b40_l1_1_1_1_1_1_1_1_0_1_0 (call : CallA) (n : Nat) (j1_1_1_1_1_1_1_1_0_1_0_0_1_1 : Option Pos → Option Pos → Nat → Cap → Option Pos → Nat → Cap → Option Pos → Nat → Cap → Int → AS → Option (AV × AS)) (j1_1_1_1_1_1_1_1_1 : Option Pos → Option Pos → Nat → Cap → Option Pos → Nat → Cap → AS → Option (AV × AS)) (w0 : Option Pos) (w9a : Option Pos) (w9l : Nat) (w9c : Cap) (w10a : Option Pos) (w10l : Nat) (w10c : Cap) (w11a : Option Pos) (w11l : Nat) (w11c : Cap) (w12 : Int) (S : AS) : Option (AV × AS) :=
 gO w0 fun p20 =>
 ldL S p20.1 p20.2 fun v21a v21l v21c =>
 cond (decide (w12 < ((v21l : Nat) : Int))) (
 ixSl 1 w9a w9l w12 fun p22 =>
 ldB S p22.1 p22.2 fun v23 =>
 cond v23 (
 gO w0 fun p24 =>
 ldL S p24.1 p24.2 fun v25a v25l v25c =>
 ixSl 4 v25a v25l w12 fun p26 =>
 S.ldn p26.1 p26.2 4 fun g27 =>
 ifO (g27.length = 4) <|
 ifO (0 + g27.length ≤ ([(.int .u32 0), (.int .u64 0), (.str ([])), (.int .u64 0)] : List AV).length) <|
 newA S (.cells (splice [(.int .u32 0), (.int .u64 0), (.str ([])), (.int .u64 0)] 0 g27)) fun b28 S29 =>
 appendA 4 40 S29 w11a w11l w11c 1 (firstA S29 4 1 (.sl (some (.rw b28, 0)) 1 (.ex 1))) fun v31a v31l v31c S32 =>
 j1_1_1_1_1_1_1_1_0_1_0_0_1_1 w0 w9a w9l w9c w10a w10l w10c v31a v31l v31c w12 S32) (
 gO w0 fun p33 =>
 ldL S p33.1 p33.2 fun v34a v34l v34c =>
 ixSl 4 v34a v34l w12 fun p35 =>
 ldI .u32 S p35.1 p35.2 fun v36 =>
 newA S (.cells [(.int .u32 v36)]) fun b37 S38 =>
 appendA 1 4 S38 w10a w10l w10c 1 (firstA S38 1 1 (.sl (some (.rw b37, 0)) 1 (.ex 1))) fun v39a v39l v39c S40 =>
 j1_1_1_1_1_1_1_1_0_1_0_0_1_1 w0 w9a w9l w9c v39a v39l v39c w11a w11l w11c w12 S40)) (
 j1_1_1_1_1_1_1_1_1 w0 w10a w10l w10c w11a w11l w11c S)

def b40_j1_1_1_1_1_1_1_1_0_1_0_0_1_1 (call : CallA) (n : Nat) (l1_1_1_1_1_1_1_1_0_1_0 : Option Pos → Option Pos → Nat → Cap → Option Pos → Nat → Cap → Option Pos → Nat → Cap → Int → AS → Option (AV × AS)) (w0 : Option Pos) (w9a : Option Pos) (w9l : Nat) (w9c : Cap) (w10a : Option Pos) (w10l : Nat) (w10c : Cap) (w11a : Option Pos) (w11l : Nat) (w11c : Cap) (w12 : Int) (S : AS) : Option (AV × AS) :=
 l1_1_1_1_1_1_1_1_0_1_0 w0 w9a w9l w9c w10a w10l w10c w11a w11l w11c (IntKind.wrap .i64 (w12 + 1)) S

def b40_j1_1_1_1_1_1_1_1_1 (call : CallA) (n : Nat)  (w0 : Option Pos) (w10a : Option Pos) (w10l : Nat) (w10c : Cap) (w11a : Option Pos) (w11l : Nat) (w11c : Cap) (S : AS) : Option (AV × AS) :=
 gO w0 fun p41 =>
 S.stn p41.1 p41.2 [(.sl w11a w11l w11c)] fun S42 =>
 some (.tup [(.sl w10a w10l w10c), (.int .i64 0)], S42)

def b40_entry (call : CallA) (n : Nat) (l1_1_1_1_0_1_0 : Option Pos → Option Pos → Option Pos → Nat → Cap → Int → AS → Option (AV × AS)) (x0 : Option Pos) (x1 : List AV) (S : AS) : Option (AV × AS) :=
 ifO (x1.length = 2) <|
 newA S (.cells x1) fun b1 S2 =>
 S2.ldn (.rw b1) 0 2 fun g3 =>
 callI .i64 call 17 [(.agg g3)] S2 fun v5 S4 =>
 cond (v5 != 0) (
 some (.tup [(.sl none 0 (.ex 0)), (.int .i64 v5)], S4)) (
 l1_1_1_1_0_1_0 x0 (some ((.rw b1), 0)) none 0 (.ex 0) 0 S4)

def r40_l1_1_1_1_0_1_0 (call : CallA) (n : Nat)  (m : Nat) (w0 : Option Pos) (w3 : Option Pos) (w7a : Option Pos) (w7l : Nat) (w7c : Cap) (w8 : Int) (S : AS) : Option (AV × AS) := loopN (evC E call n 40 (E.at 40 [1, 1, 1, 1, 0, 1, 0, 0]) 0) [0, 3, 7, 8] m [(0, (.ptr w0)), (3, (.ptr w3)), (7, (.sl w7a w7l w7c)), (8, (.int .i64 w8))] S (kBlk 0 (kSeq E call n 40 (E.at 40 [1, 1, 1, 1, 1]) 0 (retK E (E.fn 40))))
def r40_j1_1_1_1_1 (call : CallA) (n : Nat)  (w0 : Option Pos) (w3 : Option Pos) (w7a : Option Pos) (w7l : Nat) (w7c : Cap) (S : AS) : Option (AV × AS) := evC E call n 40 (E.at 40 [1, 1, 1, 1, 1]) 0 [(0, (.ptr w0)), (3, (.ptr w3)), (7, (.sl w7a w7l w7c))] S (retK E (E.fn 40))
def r40_l1_1_1_1_1_1_1_1_0_1_0 (call : CallA) (n : Nat)  (m : Nat) (w0 : Option Pos) (w9a : Option Pos) (w9l : Nat) (w9c : Cap) (w10a : Option Pos) (w10l : Nat) (w10c : Cap) (w11a : Option Pos) (w11l : Nat) (w11c : Cap) (w12 : Int) (S : AS) : Option (AV × AS) := loopN (evC E call n 40 (E.at 40 [1, 1, 1, 1, 1, 1, 1, 1, 0, 1, 0, 0]) 2) [0, 9, 10, 11, 12] m [(0, (.ptr w0)), (9, (.sl w9a w9l w9c)), (10, (.sl w10a w10l w10c)), (11, (.sl w11a w11l w11c)), (12, (.int .i64 w12))] S (kBlk 2 (kSeq E call n 40 (E.at 40 [1, 1, 1, 1, 1, 1, 1, 1, 1]) 0 (retK E (E.fn 40))))
def r40_j1_1_1_1_1_1_1_1_0_1_0_0_1_1 (call : CallA) (n : Nat) (m1_1_1_1_1_1_1_1_0_1_0 : Nat) (w0 : Option Pos) (w9a : Option Pos) (w9l : Nat) (w9c : Cap) (w10a : Option Pos) (w10l : Nat) (w10c : Cap) (w11a : Option Pos) (w11l : Nat) (w11c : Cap) (w12 : Int) (S : AS) : Option (AV × AS) := evC E call n 40 (E.at 40 [1, 1, 1, 1, 1, 1, 1, 1, 0, 1, 0, 0, 1, 1]) 2 [(0, (.ptr w0)), (9, (.sl w9a w9l w9c)), (10, (.sl w10a w10l w10c)), (11, (.sl w11a w11l w11c)), (12, (.int .i64 w12))] S (kLp (evC E call n 40 (E.at 40 [1, 1, 1, 1, 1, 1, 1, 1, 0, 1, 0, 0]) 2) [0, 9, 10, 11, 12] m1_1_1_1_1_1_1_1_0_1_0 (kBlk 2 (kSeq E call n 40 (E.at 40 [1, 1, 1, 1, 1, 1, 1, 1, 1]) 0 (retK E (E.fn 40)))))
def r40_j1_1_1_1_1_1_1_1_1 (call : CallA) (n : Nat)  (w0 : Option Pos) (w10a : Option Pos) (w10l : Nat) (w10c : Cap) (w11a : Option Pos) (w11l : Nat) (w11c : Cap) (S : AS) : Option (AV × AS) := evC E call n 40 (E.at 40 [1, 1, 1, 1, 1, 1, 1, 1, 1]) 0 [(0, (.ptr w0)), (10, (.sl w10a w10l w10c)), (11, (.sl w11a w11l w11c))] S (retK E (E.fn 40))
theorem a40_l1_1_1_1_0_1_0 (call : CallA) (n : Nat)  (m : Nat) (w0 : Option Pos) (w3 : Option Pos) (w7a : Option Pos) (w7l : Nat) (w7c : Cap) (w8 : Int) (S : AS) : r40_l1_1_1_1_0_1_0 call n  (m + 1) w0 w3 w7a w7l w7c w8 S = b40_l1_1_1_1_0_1_0 call n (r40_l1_1_1_1_0_1_0 call n  m) (r40_j1_1_1_1_1 call n ) w0 w3 w7a w7l w7c w8 S := by kernel_rfl
theorem a40_j1_1_1_1_1 (call : CallA) (n : Nat)  (w0 : Option Pos) (w3 : Option Pos) (w7a : Option Pos) (w7l : Nat) (w7c : Cap) (S : AS) : r40_j1_1_1_1_1 call n  w0 w3 w7a w7l w7c S = b40_j1_1_1_1_1 call n (r40_l1_1_1_1_1_1_1_1_0_1_0 call n  n) w0 w3 w7a w7l w7c S := by kernel_rfl
theorem a40_l1_1_1_1_1_1_1_1_0_1_0 (call : CallA) (n : Nat)  (m : Nat) (w0 : Option Pos) (w9a : Option Pos) (w9l : Nat) (w9c : Cap) (w10a : Option Pos) (w10l : Nat) (w10c : Cap) (w11a : Option Pos) (w11l : Nat) (w11c : Cap) (w12 : Int) (S : AS) : r40_l1_1_1_1_1_1_1_1_0_1_0 call n  (m + 1) w0 w9a w9l w9c w10a w10l w10c w11a w11l w11c w12 S = b40_l1_1_1_1_1_1_1_1_0_1_0 call n (r40_j1_1_1_1_1_1_1_1_0_1_0_0_1_1 call n m) (r40_j1_1_1_1_1_1_1_1_1 call n ) w0 w9a w9l w9c w10a w10l w10c w11a w11l w11c w12 S := by kernel_rfl
theorem a40_j1_1_1_1_1_1_1_1_0_1_0_0_1_1 (call : CallA) (n : Nat) (m1_1_1_1_1_1_1_1_0_1_0 : Nat) (w0 : Option Pos) (w9a : Option Pos) (w9l : Nat) (w9c : Cap) (w10a : Option Pos) (w10l : Nat) (w10c : Cap) (w11a : Option Pos) (w11l : Nat) (w11c : Cap) (w12 : Int) (S : AS) : r40_j1_1_1_1_1_1_1_1_0_1_0_0_1_1 call n m1_1_1_1_1_1_1_1_0_1_0 w0 w9a w9l w9c w10a w10l w10c w11a w11l w11c w12 S = b40_j1_1_1_1_1_1_1_1_0_1_0_0_1_1 call n (r40_l1_1_1_1_1_1_1_1_0_1_0 call n  m1_1_1_1_1_1_1_1_0_1_0) w0 w9a w9l w9c w10a w10l w10c w11a w11l w11c w12 S := by kernel_rfl
theorem a40_j1_1_1_1_1_1_1_1_1 (call : CallA) (n : Nat)  (w0 : Option Pos) (w10a : Option Pos) (w10l : Nat) (w10c : Cap) (w11a : Option Pos) (w11l : Nat) (w11c : Cap) (S : AS) : r40_j1_1_1_1_1_1_1_1_1 call n  w0 w10a w10l w10c w11a w11l w11c S = b40_j1_1_1_1_1_1_1_1_1 call n  w0 w10a w10l w10c w11a w11l w11c S := by kernel_rfl
theorem a40_entry (call : CallA) (n : Nat) (x0 : Option Pos) (x1 : List AV) (S : AS) : evC E call n 40 (E.at 40 []) 0 (enumT 0 [(.ptr x0), (.agg x1)]) S (retK E (E.fn 40)) = b40_entry call n (r40_l1_1_1_1_0_1_0 call n  n) x0 x1 S := by kernel_rfl
def J40_j1_1_1_1_1_1_1_1_0_1_0_0_1_1 (call : CallA) (n : Nat) (n1_1_1_1_1_1_1_1_0_1_0 : Option Pos → Option Pos → Nat → Cap → Option Pos → Nat → Cap → Option Pos → Nat → Cap → Int → AS → Option (AV × AS)) (w0 : Option Pos) (w9a : Option Pos) (w9l : Nat) (w9c : Cap) (w10a : Option Pos) (w10l : Nat) (w10c : Cap) (w11a : Option Pos) (w11l : Nat) (w11c : Cap) (w12 : Int) (S : AS) : Option (AV × AS) := b40_j1_1_1_1_1_1_1_1_0_1_0_0_1_1 call n n1_1_1_1_1_1_1_1_0_1_0 w0 w9a w9l w9c w10a w10l w10c w11a w11l w11c w12 S
theorem h40_j1_1_1_1_1_1_1_1_0_1_0_0_1_1 (call : CallA) (n : Nat) (m1_1_1_1_1_1_1_1_0_1_0 : Nat) : r40_j1_1_1_1_1_1_1_1_0_1_0_0_1_1 call n m1_1_1_1_1_1_1_1_0_1_0 = J40_j1_1_1_1_1_1_1_1_0_1_0_0_1_1 call n (r40_l1_1_1_1_1_1_1_1_0_1_0 call n  m1_1_1_1_1_1_1_1_0_1_0) := by
  funext w0 w9a w9l w9c w10a w10l w10c w11a w11l w11c w12 S
  rw [J40_j1_1_1_1_1_1_1_1_0_1_0_0_1_1, a40_j1_1_1_1_1_1_1_1_0_1_0_0_1_1]
def J40_j1_1_1_1_1_1_1_1_1 (call : CallA) (n : Nat)  (w0 : Option Pos) (w10a : Option Pos) (w10l : Nat) (w10c : Cap) (w11a : Option Pos) (w11l : Nat) (w11c : Cap) (S : AS) : Option (AV × AS) := b40_j1_1_1_1_1_1_1_1_1 call n  w0 w10a w10l w10c w11a w11l w11c S
theorem h40_j1_1_1_1_1_1_1_1_1 (call : CallA) (n : Nat)  : r40_j1_1_1_1_1_1_1_1_1 call n  = J40_j1_1_1_1_1_1_1_1_1 call n  := by
  funext w0 w10a w10l w10c w11a w11l w11c S
  rw [J40_j1_1_1_1_1_1_1_1_1, a40_j1_1_1_1_1_1_1_1_1]
def J40_l1_1_1_1_1_1_1_1_0_1_0 (call : CallA) (n : Nat)  (m : Nat) : Option Pos → Option Pos → Nat → Cap → Option Pos → Nat → Cap → Option Pos → Nat → Cap → Int → AS → Option (AV × AS) := Nat.rec (motive := fun _ => Option Pos → Option Pos → Nat → Cap → Option Pos → Nat → Cap → Option Pos → Nat → Cap → Int → AS → Option (AV × AS)) (fun _ _ _ _ _ _ _ _ _ _ _ _ => none) (fun _ ih w0 w9a w9l w9c w10a w10l w10c w11a w11l w11c w12 S => b40_l1_1_1_1_1_1_1_1_0_1_0 call n (J40_j1_1_1_1_1_1_1_1_0_1_0_0_1_1 call n ih) (J40_j1_1_1_1_1_1_1_1_1 call n ) w0 w9a w9l w9c w10a w10l w10c w11a w11l w11c w12 S) m
theorem J40_l1_1_1_1_1_1_1_1_0_1_0_succ (call : CallA) (n : Nat)  (m : Nat) (w0 : Option Pos) (w9a : Option Pos) (w9l : Nat) (w9c : Cap) (w10a : Option Pos) (w10l : Nat) (w10c : Cap) (w11a : Option Pos) (w11l : Nat) (w11c : Cap) (w12 : Int) (S : AS) : J40_l1_1_1_1_1_1_1_1_0_1_0 call n  (m + 1) w0 w9a w9l w9c w10a w10l w10c w11a w11l w11c w12 S = b40_l1_1_1_1_1_1_1_1_0_1_0 call n (J40_j1_1_1_1_1_1_1_1_0_1_0_0_1_1 call n (J40_l1_1_1_1_1_1_1_1_0_1_0 call n  m)) (J40_j1_1_1_1_1_1_1_1_1 call n ) w0 w9a w9l w9c w10a w10l w10c w11a w11l w11c w12 S := rfl
theorem h40_l1_1_1_1_1_1_1_1_0_1_0 (call : CallA) (n : Nat)  (m : Nat) : r40_l1_1_1_1_1_1_1_1_0_1_0 call n  m = J40_l1_1_1_1_1_1_1_1_0_1_0 call n  m := by
  induction m with
  | zero => rfl
  | succ m ih =>
    funext w0 w9a w9l w9c w10a w10l w10c w11a w11l w11c w12 S
    rw [J40_l1_1_1_1_1_1_1_1_0_1_0_succ, a40_l1_1_1_1_1_1_1_1_0_1_0, h40_j1_1_1_1_1_1_1_1_0_1_0_0_1_1 call n m, h40_j1_1_1_1_1_1_1_1_1 call n , ih]
def J40_j1_1_1_1_1 (call : CallA) (n : Nat)  (w0 : Option Pos) (w3 : Option Pos) (w7a : Option Pos) (w7l : Nat) (w7c : Cap) (S : AS) : Option (AV × AS) := b40_j1_1_1_1_1 call n (J40_l1_1_1_1_1_1_1_1_0_1_0 call n  n) w0 w3 w7a w7l w7c S
theorem h40_j1_1_1_1_1 (call : CallA) (n : Nat)  : r40_j1_1_1_1_1 call n  = J40_j1_1_1_1_1 call n  := by
  funext w0 w3 w7a w7l w7c S
  rw [J40_j1_1_1_1_1, a40_j1_1_1_1_1, h40_l1_1_1_1_1_1_1_1_0_1_0 call n  n]
def J40_l1_1_1_1_0_1_0 (call : CallA) (n : Nat)  (m : Nat) : Option Pos → Option Pos → Option Pos → Nat → Cap → Int → AS → Option (AV × AS) := Nat.rec (motive := fun _ => Option Pos → Option Pos → Option Pos → Nat → Cap → Int → AS → Option (AV × AS)) (fun _ _ _ _ _ _ _ => none) (fun _ ih w0 w3 w7a w7l w7c w8 S => b40_l1_1_1_1_0_1_0 call n ih (J40_j1_1_1_1_1 call n ) w0 w3 w7a w7l w7c w8 S) m
theorem J40_l1_1_1_1_0_1_0_succ (call : CallA) (n : Nat)  (m : Nat) (w0 : Option Pos) (w3 : Option Pos) (w7a : Option Pos) (w7l : Nat) (w7c : Cap) (w8 : Int) (S : AS) : J40_l1_1_1_1_0_1_0 call n  (m + 1) w0 w3 w7a w7l w7c w8 S = b40_l1_1_1_1_0_1_0 call n (J40_l1_1_1_1_0_1_0 call n  m) (J40_j1_1_1_1_1 call n ) w0 w3 w7a w7l w7c w8 S := rfl
theorem h40_l1_1_1_1_0_1_0 (call : CallA) (n : Nat)  (m : Nat) : r40_l1_1_1_1_0_1_0 call n  m = J40_l1_1_1_1_0_1_0 call n  m := by
  induction m with
  | zero => rfl
  | succ m ih =>
    funext w0 w3 w7a w7l w7c w8 S
    rw [J40_l1_1_1_1_0_1_0_succ, a40_l1_1_1_1_0_1_0, h40_j1_1_1_1_1 call n , ih]
def J40 (call : CallA) (n : Nat) (x0 : Option Pos) (x1 : List AV) (S : AS) : Option (AV × AS) := b40_entry call n (J40_l1_1_1_1_0_1_0 call n  n) x0 x1 S
theorem run40 (o : Orc) (n : Nat) (args : List AV) (S : AS) (ho : o 40 args = none) : evF E o (n + 1) (.fn 40) args S = evC E (evF E o n) n 40 (E.at 40 []) 0 (enumT 0 args) S (retK E (E.fn 40)) := by
  rw [evF, ho]; kernel_rfl
theorem J40_eq (call : CallA) (n : Nat) (x0 : Option Pos) (x1 : List AV) (S : AS) : evC E call n 40 (E.at 40 []) 0 (enumT 0 [(.ptr x0), (.agg x1)]) S (retK E (E.fn 40)) = J40 call n x0 x1 S := by
  rw [J40, a40_entry, h40_l1_1_1_1_0_1_0 call n  n]
theorem F40 {o : Orc} (n : Nat) (x0 : Option Pos) (x1 : List AV) (S : AS) (ho : ∀ args, o 40 args = none) : evF E o (n + 1) (.fn 40) [(.ptr x0), (.agg x1)] S = J40 (evF E o n) n x0 x1 S := (run40 o n [(.ptr x0), (.agg x1)] S (ho _)).trans (J40_eq _ _ x0 x1 S)
def b41_l1_1_0_1_0 (call : CallA) (n : Nat) (l1_1_0_1_0 : Option Pos → Nat → Cap → Option Pos → Nat → Cap → Bool → Int → AS → Option (AV × AS)) (w0a : Option Pos) (w0l : Nat) (w0c : Cap) (w1a : Option Pos) (w1l : Nat) (w1c : Cap) (w4 : Bool) (w5 : Int) (S : AS) : Option (AV × AS) :=
 cond (decide (w5 < ((w0l : Nat) : Int))) (
 ixSl 1 w0a w0l w5 fun p1 =>
 ldI .u32 S p1.1 p1.2 fun v2 =>
 ixSl 1 w1a w1l w5 fun p3 =>
 ldI .u32 S p3.1 p3.2 fun v4 =>
 cond (v2 != v4) (
 some ((.bool false), S)) (
 l1_1_0_1_0 w0a w0l w0c w1a w1l w1c w4 (IntKind.wrap .i64 (w5 + 1)) S)) (
 some ((.bool true), S))

def b41_entry (call : CallA) (n : Nat) (l1_1_0_1_0 : Option Pos → Nat → Cap → Option Pos → Nat → Cap → Bool → Int → AS → Option (AV × AS)) (x0a : Option Pos) (x0l : Nat) (x0c : Cap) (x1a : Option Pos) (x1l : Nat) (x1c : Cap) (S : AS) : Option (AV × AS) :=
 cond (((x0l : Nat) : Int) != ((x1l : Nat) : Int)) (
 some ((.bool false), S)) (
 l1_1_0_1_0 x0a x0l x0c x1a x1l x1c false 0 S)

def r41_l1_1_0_1_0 (call : CallA) (n : Nat)  (m : Nat) (w0a : Option Pos) (w0l : Nat) (w0c : Cap) (w1a : Option Pos) (w1l : Nat) (w1c : Cap) (w4 : Bool) (w5 : Int) (S : AS) : Option (AV × AS) := loopN (evC E call n 41 (E.at 41 [1, 1, 0, 1, 0, 0]) 0) [0, 1, 4, 5] m [(0, (.sl w0a w0l w0c)), (1, (.sl w1a w1l w1c)), (4, (.bool w4)), (5, (.int .i64 w5))] S (kBlk 0 (kSeq E call n 41 (E.at 41 [1, 1, 1]) 0 (retK E (E.fn 41))))
theorem a41_l1_1_0_1_0 (call : CallA) (n : Nat)  (m : Nat) (w0a : Option Pos) (w0l : Nat) (w0c : Cap) (w1a : Option Pos) (w1l : Nat) (w1c : Cap) (w4 : Bool) (w5 : Int) (S : AS) : r41_l1_1_0_1_0 call n  (m + 1) w0a w0l w0c w1a w1l w1c w4 w5 S = b41_l1_1_0_1_0 call n (r41_l1_1_0_1_0 call n  m) w0a w0l w0c w1a w1l w1c w4 w5 S := by kernel_rfl
theorem a41_entry (call : CallA) (n : Nat) (x0a : Option Pos) (x0l : Nat) (x0c : Cap) (x1a : Option Pos) (x1l : Nat) (x1c : Cap) (S : AS) : evC E call n 41 (E.at 41 []) 0 (enumT 0 [(.sl x0a x0l x0c), (.sl x1a x1l x1c)]) S (retK E (E.fn 41)) = b41_entry call n (r41_l1_1_0_1_0 call n  n) x0a x0l x0c x1a x1l x1c S := by kernel_rfl
def J41_l1_1_0_1_0 (call : CallA) (n : Nat)  (m : Nat) : Option Pos → Nat → Cap → Option Pos → Nat → Cap → Bool → Int → AS → Option (AV × AS) := Nat.rec (motive := fun _ => Option Pos → Nat → Cap → Option Pos → Nat → Cap → Bool → Int → AS → Option (AV × AS)) (fun _ _ _ _ _ _ _ _ _ => none) (fun _ ih w0a w0l w0c w1a w1l w1c w4 w5 S => b41_l1_1_0_1_0 call n ih w0a w0l w0c w1a w1l w1c w4 w5 S) m
theorem J41_l1_1_0_1_0_succ (call : CallA) (n : Nat)  (m : Nat) (w0a : Option Pos) (w0l : Nat) (w0c : Cap) (w1a : Option Pos) (w1l : Nat) (w1c : Cap) (w4 : Bool) (w5 : Int) (S : AS) : J41_l1_1_0_1_0 call n  (m + 1) w0a w0l w0c w1a w1l w1c w4 w5 S = b41_l1_1_0_1_0 call n (J41_l1_1_0_1_0 call n  m) w0a w0l w0c w1a w1l w1c w4 w5 S := rfl
theorem h41_l1_1_0_1_0 (call : CallA) (n : Nat)  (m : Nat) : r41_l1_1_0_1_0 call n  m = J41_l1_1_0_1_0 call n  m := by
  induction m with
  | zero => rfl
  | succ m ih =>
    funext w0a w0l w0c w1a w1l w1c w4 w5 S
    rw [J41_l1_1_0_1_0_succ, a41_l1_1_0_1_0, ih]
def J41 (call : CallA) (n : Nat) (x0a : Option Pos) (x0l : Nat) (x0c : Cap) (x1a : Option Pos) (x1l : Nat) (x1c : Cap) (S : AS) : Option (AV × AS) := b41_entry call n (J41_l1_1_0_1_0 call n  n) x0a x0l x0c x1a x1l x1c S
theorem run41 (o : Orc) (n : Nat) (args : List AV) (S : AS) (ho : o 41 args = none) : evF E o (n + 1) (.fn 41) args S = evC E (evF E o n) n 41 (E.at 41 []) 0 (enumT 0 args) S (retK E (E.fn 41)) := by
  rw [evF, ho]; kernel_rfl
theorem J41_eq (call : CallA) (n : Nat) (x0a : Option Pos) (x0l : Nat) (x0c : Cap) (x1a : Option Pos) (x1l : Nat) (x1c : Cap) (S : AS) : evC E call n 41 (E.at 41 []) 0 (enumT 0 [(.sl x0a x0l x0c), (.sl x1a x1l x1c)]) S (retK E (E.fn 41)) = J41 call n x0a x0l x0c x1a x1l x1c S := by
  rw [J41, a41_entry, h41_l1_1_0_1_0 call n  n]
theorem F41 {o : Orc} (n : Nat) (x0a : Option Pos) (x0l : Nat) (x0c : Cap) (x1a : Option Pos) (x1l : Nat) (x1c : Cap) (S : AS) (ho : ∀ args, o 41 args = none) : evF E o (n + 1) (.fn 41) [(.sl x0a x0l x0c), (.sl x1a x1l x1c)] S = J41 (evF E o n) n x0a x0l x0c x1a x1l x1c S := (run41 o n [(.sl x0a x0l x0c), (.sl x1a x1l x1c)] S (ho _)).trans (J41_eq _ _ x0a x0l x0c x1a x1l x1c S)
def b42_j1_1_1_1 (call : CallA) (n : Nat) (l1_1_1_1_0_1_0 : Option Pos → Nat → Cap → Option Pos → Option Pos → Nat → Cap → AS → Option (AV × AS)) (w0a : Option Pos) (w0l : Nat) (w0c : Cap) (w4 : Option Pos) (S : AS) : Option (AV × AS) :=
 slSl 1 w0a w0l w0c (some 20) none none fun v16a v16l v16c =>
 l1_1_1_1_0_1_0 w0a w0l w0c w4 v16a v16l v16c S

def b42_l1_1_1_1_0_1_0 (call : CallA) (n : Nat) (l1_1_1_1_0_1_0 : Option Pos → Nat → Cap → Option Pos → Option Pos → Nat → Cap → AS → Option (AV × AS)) (j1_1_1_1_1 : Option Pos → Nat → Cap → Option Pos → AS → Option (AV × AS)) (w0a : Option Pos) (w0l : Nat) (w0c : Cap) (w4 : Option Pos) (w5a : Option Pos) (w5l : Nat) (w5c : Cap) (S : AS) : Option (AV × AS) :=
 cond (decide (((w5l : Nat) : Int) > 0)) (
 drawA S 24 fun b17 S18 =>
 gO w4 fun p19 =>
 ldL S18 p19.1 p19.2 fun v20a v20l v20c =>
 slSl 1 w5a w5l w5c none (some 4) none fun v21a v21l v21c =>
 callI .u64 call 53 [(.sl v21a v21l v21c)] S18 fun v23 S22 =>
 ldL S22 p19.1 p19.2 fun v24a v24l v24c =>
 cond (AV.beq (.sl v24a v24l v24c) (.sl v20a v20l v20c)) (
 slSl 1 w5a w5l w5c (some 4) (some 12) none fun v25a v25l v25c =>
 callI .u64 call 53 [(.sl v25a v25l v25c)] S22 fun v27 S26 =>
 ldL S26 p19.1 p19.2 fun v28a v28l v28c =>
 cond (AV.beq (.sl v28a v28l v28c) (.sl v20a v20l v20c)) (
 slSl 1 w5a w5l w5c (some 12) (some 44) none fun v29a v29l v29c =>
 bytesStr S26 v29a v29l fun s30 =>
 bytesStr S22 v29a v29l fun s31 =>
 cond (AV.beq (.str s31) (.str s30)) (
 bytesStr S18 v29a v29l fun s32 =>
 cond (AV.beq (.str s32) (.str s30)) (
 slSl 1 w5a w5l w5c (some 44) (some 52) none fun v33a v33l v33c =>
 callI .u64 call 53 [(.sl v33a v33l v33c)] S26 fun v35 S34 =>
 bytesStr S34 v29a v29l fun s36 =>
 cond (AV.beq (.str s36) (.str s30)) (
 ldL S34 p19.1 p19.2 fun v37a v37l v37c =>
 cond (AV.beq (.sl v37a v37l v37c) (.sl v20a v20l v20c)) (
 layA S34 (b17 + 19) (.cells [(.int .u32 (IntKind.wrap .u32 v23)), (.int .u64 v27), (.str s30), (.int .u64 v35)]) fun S38 =>
 appendA 4 40 S38 v20a v20l v20c 1 (firstA S38 4 1 (.sl (some (.rw (b17 + 19), 0)) 1 (.ex 1))) fun v39a v39l v39c S40 =>
 gO w4 fun p41 =>
 S40.stn p41.1 p41.2 [(.sl v39a v39l v39c)] fun S42 =>
 slSl 1 w5a w5l w5c (some 52) none none fun v43a v43l v43c =>
 l1_1_1_1_0_1_0 w0a w0l w0c w4 v43a v43l v43c S42) none) none) none) none) none) none) (
 j1_1_1_1_1 w0a w0l w0c w4 S)

def b42_j1_1_1_1_1 (call : CallA) (n : Nat)  (w0a : Option Pos) (w0l : Nat) (w0c : Cap) (w4 : Option Pos) (S : AS) : Option (AV × AS) :=
 slSl 1 w0a w0l w0c (some 16) (some 20) none fun v44a v44l v44c =>
 callI .u64 call 53 [(.sl v44a v44l v44c)] S fun v46 S45 =>
 gO w4 fun p47 =>
 ldL S45 p47.1 p47.2 fun v48a v48l v48c =>
 ldL S p47.1 p47.2 fun v49a v49l v49c =>
 cond (AV.beq (.sl v49a v49l v49c) (.sl v48a v48l v48c)) (
 cond (AV.beq (.int .i64 ((v48l : Nat) : Int)) (.int .i64 ((v48l : Nat) : Int))) (
 cond (v46 != (IntKind.wrap .u64 ((v48l : Nat) : Int))) (
 some (.tup [(.ptr none), (.int .i64 181)], S45)) (
 callB call 54 [(.ptr w4)] S45 fun v51 S50 =>
 cond (!v51) (
 some (.tup [(.ptr none), (.int .i64 181)], S50)) (
 some (.tup [(.ptr w4), (.int .i64 0)], S50)))) none) none

def b42_entry (call : CallA) (n : Nat) (j1_1_1_1 : Option Pos → Nat → Cap → Option Pos → AS → Option (AV × AS)) (x0a : Option Pos) (x0l : Nat) (x0c : Cap) (S : AS) : Option (AV × AS) :=
 cond (decide (((x0l : Nat) : Int) < 20)) (
 some (.tup [(.ptr none), (.int .i64 181)], S)) (
 cond ((Int.tmod (IntKind.wrap .i64 (((x0l : Nat) : Int) - 20)) 52) != 0) (
 some (.tup [(.ptr none), (.int .i64 181)], S)) (
 slSl 1 x0a x0l x0c none (some 4) none fun v1a v1l v1c =>
 bytesStr S v1a v1l fun s2 =>
 cond (!(s2 == ([67, 65, 84, 49]))) (
 some (.tup [(.ptr none), (.int .i64 181)], S)) (
 drawA S 10 fun b3 S4 =>
 slSl 1 x0a x0l x0c (some 4) (some 8) none fun v5a v5l v5c =>
 callI .u64 call 53 [(.sl v5a v5l v5c)] S4 fun v7 S6 =>
 slSl 1 x0a x0l x0c (some 8) (some 16) none fun v8a v8l v8c =>
 callI .u64 call 53 [(.sl v8a v8l v8c)] S6 fun v10 S9 =>
 layA S9 (b3 + 8) (.cells [(.sl none 0 (.ex 0)), (.int .u64 (IntKind.wrap .u64 (v7 - 1))), (.int .u64 v10)]) fun S11 =>
 slSl 1 x0a x0l x0c (some 4) (some 8) none fun v12a v12l v12c =>
 callI .u64 call 53 [(.sl v12a v12l v12c)] S11 fun v14 S13 =>
 cond (v14 == 0) (
 S13.stn (.rw (b3 + 8)) 1 [(.int .u64 4294967295)] fun S15 =>
 j1_1_1_1 x0a x0l x0c (some ((.rw (b3 + 8)), 0)) S15) (
 j1_1_1_1 x0a x0l x0c (some ((.rw (b3 + 8)), 0)) S13))))

def r42_j1_1_1_1 (call : CallA) (n : Nat)  (w0a : Option Pos) (w0l : Nat) (w0c : Cap) (w4 : Option Pos) (S : AS) : Option (AV × AS) := evC E call n 42 (E.at 42 [1, 1, 1, 1]) 0 [(0, (.sl w0a w0l w0c)), (4, (.ptr w4))] S (retK E (E.fn 42))
def r42_l1_1_1_1_0_1_0 (call : CallA) (n : Nat)  (m : Nat) (w0a : Option Pos) (w0l : Nat) (w0c : Cap) (w4 : Option Pos) (w5a : Option Pos) (w5l : Nat) (w5c : Cap) (S : AS) : Option (AV × AS) := loopN (evC E call n 42 (E.at 42 [1, 1, 1, 1, 0, 1, 0, 0]) 0) [0, 4, 5] m [(0, (.sl w0a w0l w0c)), (4, (.ptr w4)), (5, (.sl w5a w5l w5c))] S (kBlk 0 (kSeq E call n 42 (E.at 42 [1, 1, 1, 1, 1]) 0 (retK E (E.fn 42))))
def r42_j1_1_1_1_1 (call : CallA) (n : Nat)  (w0a : Option Pos) (w0l : Nat) (w0c : Cap) (w4 : Option Pos) (S : AS) : Option (AV × AS) := evC E call n 42 (E.at 42 [1, 1, 1, 1, 1]) 0 [(0, (.sl w0a w0l w0c)), (4, (.ptr w4))] S (retK E (E.fn 42))
theorem a42_j1_1_1_1 (call : CallA) (n : Nat)  (w0a : Option Pos) (w0l : Nat) (w0c : Cap) (w4 : Option Pos) (S : AS) : r42_j1_1_1_1 call n  w0a w0l w0c w4 S = b42_j1_1_1_1 call n (r42_l1_1_1_1_0_1_0 call n  n) w0a w0l w0c w4 S := by kernel_rfl
theorem a42_l1_1_1_1_0_1_0 (call : CallA) (n : Nat)  (m : Nat) (w0a : Option Pos) (w0l : Nat) (w0c : Cap) (w4 : Option Pos) (w5a : Option Pos) (w5l : Nat) (w5c : Cap) (S : AS) : r42_l1_1_1_1_0_1_0 call n  (m + 1) w0a w0l w0c w4 w5a w5l w5c S = b42_l1_1_1_1_0_1_0 call n (r42_l1_1_1_1_0_1_0 call n  m) (r42_j1_1_1_1_1 call n ) w0a w0l w0c w4 w5a w5l w5c S := by kernel_rfl
theorem a42_j1_1_1_1_1 (call : CallA) (n : Nat)  (w0a : Option Pos) (w0l : Nat) (w0c : Cap) (w4 : Option Pos) (S : AS) : r42_j1_1_1_1_1 call n  w0a w0l w0c w4 S = b42_j1_1_1_1_1 call n  w0a w0l w0c w4 S := by kernel_rfl
theorem a42_entry (call : CallA) (n : Nat) (x0a : Option Pos) (x0l : Nat) (x0c : Cap) (S : AS) : evC E call n 42 (E.at 42 []) 0 (enumT 0 [(.sl x0a x0l x0c)]) S (retK E (E.fn 42)) = b42_entry call n (r42_j1_1_1_1 call n ) x0a x0l x0c S := by kernel_rfl
def J42_j1_1_1_1_1 (call : CallA) (n : Nat)  (w0a : Option Pos) (w0l : Nat) (w0c : Cap) (w4 : Option Pos) (S : AS) : Option (AV × AS) := b42_j1_1_1_1_1 call n  w0a w0l w0c w4 S
theorem h42_j1_1_1_1_1 (call : CallA) (n : Nat)  : r42_j1_1_1_1_1 call n  = J42_j1_1_1_1_1 call n  := by
  funext w0a w0l w0c w4 S
  rw [J42_j1_1_1_1_1, a42_j1_1_1_1_1]
def J42_l1_1_1_1_0_1_0 (call : CallA) (n : Nat)  (m : Nat) : Option Pos → Nat → Cap → Option Pos → Option Pos → Nat → Cap → AS → Option (AV × AS) := Nat.rec (motive := fun _ => Option Pos → Nat → Cap → Option Pos → Option Pos → Nat → Cap → AS → Option (AV × AS)) (fun _ _ _ _ _ _ _ _ => none) (fun _ ih w0a w0l w0c w4 w5a w5l w5c S => b42_l1_1_1_1_0_1_0 call n ih (J42_j1_1_1_1_1 call n ) w0a w0l w0c w4 w5a w5l w5c S) m
theorem J42_l1_1_1_1_0_1_0_succ (call : CallA) (n : Nat)  (m : Nat) (w0a : Option Pos) (w0l : Nat) (w0c : Cap) (w4 : Option Pos) (w5a : Option Pos) (w5l : Nat) (w5c : Cap) (S : AS) : J42_l1_1_1_1_0_1_0 call n  (m + 1) w0a w0l w0c w4 w5a w5l w5c S = b42_l1_1_1_1_0_1_0 call n (J42_l1_1_1_1_0_1_0 call n  m) (J42_j1_1_1_1_1 call n ) w0a w0l w0c w4 w5a w5l w5c S := rfl
theorem h42_l1_1_1_1_0_1_0 (call : CallA) (n : Nat)  (m : Nat) : r42_l1_1_1_1_0_1_0 call n  m = J42_l1_1_1_1_0_1_0 call n  m := by
  induction m with
  | zero => rfl
  | succ m ih =>
    funext w0a w0l w0c w4 w5a w5l w5c S
    rw [J42_l1_1_1_1_0_1_0_succ, a42_l1_1_1_1_0_1_0, h42_j1_1_1_1_1 call n , ih]
def J42_j1_1_1_1 (call : CallA) (n : Nat)  (w0a : Option Pos) (w0l : Nat) (w0c : Cap) (w4 : Option Pos) (S : AS) : Option (AV × AS) := b42_j1_1_1_1 call n (J42_l1_1_1_1_0_1_0 call n  n) w0a w0l w0c w4 S
theorem h42_j1_1_1_1 (call : CallA) (n : Nat)  : r42_j1_1_1_1 call n  = J42_j1_1_1_1 call n  := by
  funext w0a w0l w0c w4 S
  rw [J42_j1_1_1_1, a42_j1_1_1_1, h42_l1_1_1_1_0_1_0 call n  n]
def J42 (call : CallA) (n : Nat) (x0a : Option Pos) (x0l : Nat) (x0c : Cap) (S : AS) : Option (AV × AS) := b42_entry call n (J42_j1_1_1_1 call n ) x0a x0l x0c S
theorem run42 (o : Orc) (n : Nat) (args : List AV) (S : AS) (ho : o 42 args = none) : evF E o (n + 1) (.fn 42) args S = evC E (evF E o n) n 42 (E.at 42 []) 0 (enumT 0 args) S (retK E (E.fn 42)) := by
  rw [evF, ho]; kernel_rfl
theorem J42_eq (call : CallA) (n : Nat) (x0a : Option Pos) (x0l : Nat) (x0c : Cap) (S : AS) : evC E call n 42 (E.at 42 []) 0 (enumT 0 [(.sl x0a x0l x0c)]) S (retK E (E.fn 42)) = J42 call n x0a x0l x0c S := by
  rw [J42, a42_entry, h42_j1_1_1_1 call n ]
theorem F42 {o : Orc} (n : Nat) (x0a : Option Pos) (x0l : Nat) (x0c : Cap) (S : AS) (ho : ∀ args, o 42 args = none) : evF E o (n + 1) (.fn 42) [(.sl x0a x0l x0c)] S = J42 (evF E o n) n x0a x0l x0c S := (run42 o n [(.sl x0a x0l x0c)] S (ho _)).trans (J42_eq _ _ x0a x0l x0c S)
end
end Go.Ct
