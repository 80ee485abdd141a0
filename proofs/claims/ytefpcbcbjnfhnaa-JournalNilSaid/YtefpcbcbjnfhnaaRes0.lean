/- Plain readings of the functions, and that they are what the evaluator does: by program. -/
import Derived.Test.YtefpcbcbjnfhnaaGrRes
import Derived.Test.YtefpcbcbjnfhnaaENV
import Derived.KernelRfl
set_option maxRecDepth 100000
set_option linter.unusedVariables false
namespace Go.Jn
open Go.Gr
noncomputable section
def b4_j1_1_1_1 (call : CallA) (n : Nat)  (j1_1_1_1_1_1 : Option Pos → AS → Option (AV × AS)) (w1 : Option Pos) (S : AS) : Option (AV × AS) :=
 gO w1 fun p28 =>
 S.ldn p28.1 (p28.2 + 7) 6 fun g29 =>
 callT call 10 [(.agg g29)] S fun v31 S30 =>
 atL v31 0 fun v32a v32l v32c =>
 atI .i64 v31 1 fun v33 =>
 callI .i64 call 15 [(.int .i64 v33)] S30 fun v35 S34 =>
 cond (v35 == 0) (
 callT call 20 [(.sl v32a v32l v32c)] S34 fun v37 S36 =>
 atG 6 v37 0 fun g38 =>
 atI .i64 v37 1 fun v39 =>
 newA S36 (.cells [(.int .u64 0), (.int .u64 0), (.int .u64 0), (.int .u64 0), (.int .u64 0), (.int .u64 0)]) fun b40 S41 =>
 ifO (g38.length = 6) <|
 S41.stn (.rw b40) 0 g38 fun S42 =>
 callI .i64 call 15 [(.int .i64 v39)] S42 fun v44 S43 =>
 cond (v44 != 0) (
 some ((.bool false), S43)) (
 S43.ldn (.rw b40) 0 6 fun g45 =>
 gO w1 fun p46 =>
 S43.ldn p46.1 (p46.2 + 7) 6 fun g47 =>
 aggNe ty27 g45 g47 fun b48 =>
 cond b48 (
 some ((.bool false), S43)) (
 j1_1_1_1_1_1 w1 S43))) (
 j1_1_1_1_1_1 w1 S34)

def b4_j1_1_1_1_1_1 (call : CallA) (n : Nat)  (j1_1_1_1_1_1_1_1 : Option Pos → AS → Option (AV × AS)) (w1 : Option Pos) (S : AS) : Option (AV × AS) :=
 gO w1 fun p49 =>
 ldL S p49.1 (p49.2 + 13) fun v50a v50l v50c =>
 callL call 13 [(.sl v50a v50l v50c)] S fun v52a v52l v52c S51 =>
 callT call 12 [(.sl v52a v52l v52c)] S51 fun v54 S53 =>
 atL v54 0 fun v55a v55l v55c =>
 atI .i64 v54 1 fun v56 =>
 callI .i64 call 15 [(.int .i64 v56)] S53 fun v58 S57 =>
 cond (v58 == 0) (
 callT call 22 [(.sl v55a v55l v55c)] S57 fun v60 S59 =>
 atL v60 0 fun v61a v61l v61c =>
 atI .i64 v60 1 fun v62 =>
 callI .i64 call 15 [(.int .i64 v62)] S59 fun v64 S63 =>
 cond (v64 != 0) (
 some ((.bool false), S63)) (
 gO w1 fun p65 =>
 ldL S63 p65.1 (p65.2 + 13) fun v66a v66l v66c =>
 callB call 25 [(.sl v61a v61l v61c), (.sl v66a v66l v66c)] S63 fun v68 S67 =>
 cond (!v68) (
 some ((.bool false), S67)) (
 gO w1 fun p69 =>
 ldL S67 p69.1 (p69.2 + 13) fun v70a v70l v70c =>
 callI .i64 call 16 [(.int .i64 ((v70l : Nat) : Int))] S67 fun v72 S71 =>
 cond (v72 != (IntKind.wrap .i64 (Int.tdiv (IntKind.wrap .i64 ((IntKind.wrap .i64 (((v55l : Nat) : Int) + 336)) - 1)) 336))) (
 some ((.bool false), S71)) (
 j1_1_1_1_1_1_1_1 w1 S71)))) (
 j1_1_1_1_1_1_1_1 w1 S57)

def b4_j1_1_1_1_1_1_1_1 (call : CallA) (n : Nat)   (w1 : Option Pos) (S : AS) : Option (AV × AS) :=
 newA S (.cells []) fun b73 S74 =>
 gO w1 fun p75 =>
 ldL S74 p75.1 (p75.2 + 14) fun v76a v76l v76c =>
 appendA 1 1 S74 (some (.rw b73, 0)) 0 (.ex 0) v76l (firstA S74 1 v76l (.sl v76a v76l v76c)) fun v77a v77l v77c S78 =>
 callT call 22 [(.sl v77a v77l v77c)] S78 fun v80 S79 =>
 atL v80 0 fun v81a v81l v81c =>
 atI .i64 v80 1 fun v82 =>
 callI .i64 call 15 [(.int .i64 v82)] S79 fun v84 S83 =>
 cond (v84 == 0) (
 callT call 12 [(.sl v81a v81l v81c)] S83 fun v86 S85 =>
 atL v86 0 fun v87a v87l v87c =>
 atI .i64 v86 1 fun v88 =>
 callI .i64 call 15 [(.int .i64 v88)] S85 fun v90 S89 =>
 cond (v90 != 0) (
 some ((.bool false), S89)) (
 bytesStr S89 v87a v87l fun s91 =>
 gO w1 fun p92 =>
 ldL S89 p92.1 (p92.2 + 14) fun v93a v93l v93c =>
 bytesStr S89 v93a v93l fun s94 =>
 cond (!(s91 == s94)) (
 some ((.bool false), S89)) (
 callB call 7 [] S89 fun v96 S95 =>
 some ((.bool v96), S95)))) (
 callB call 7 [] S83 fun v98 S97 =>
 some ((.bool v98), S97))

def b4_entry (call : CallA) (n : Nat)  (j1_1_1_1 : Option Pos → AS → Option (AV × AS)) (x0 : List AV) (S : AS) : Option (AV × AS) :=
 ifO (x0.length = 16) <|
 newA S (.cells x0) fun b1 S2 =>
 S2.ldn (.rw b1) 0 16 fun g3 =>
 callB call 6 [(.agg g3)] S2 fun v5 S4 =>
 cond v5 (
 callB call 7 [] S4 fun v7 S6 =>
 some ((.bool v7), S6)) (
 S4.ldn (.rw b1) 0 7 fun g8 =>
 callT call 8 [(.agg g8)] S4 fun v10 S9 =>
 atL v10 0 fun v11a v11l v11c =>
 atI .i64 v10 1 fun v12 =>
 callI .i64 call 15 [(.int .i64 v12)] S9 fun v14 S13 =>
 cond (v14 == 0) (
 callT call 18 [(.sl v11a v11l v11c)] S13 fun v16 S15 =>
 atG 7 v16 0 fun g17 =>
 atI .i64 v16 1 fun v18 =>
 newA S15 (.cells [(.int .u64 0), (.int .u64 0), (.int .u64 0), (.int .u64 0), (.int .i64 0), (.int .i64 0), (.sl none 0 (.ex 0))]) fun b19 S20 =>
 ifO (g17.length = 7) <|
 S20.stn (.rw b19) 0 g17 fun S21 =>
 callI .i64 call 15 [(.int .i64 v18)] S21 fun v23 S22 =>
 cond (v23 != 0) (
 some ((.bool false), S22)) (
 S22.ldn (.rw b19) 0 7 fun g24 =>
 S22.ldn (.rw b1) 0 7 fun g25 =>
 callB call 24 [(.agg g24), (.agg g25)] S22 fun v27 S26 =>
 cond (!v27) (
 some ((.bool false), S26)) (
 cond (((v11l : Nat) : Int) != 384) (
 some ((.bool false), S26)) (
 j1_1_1_1 (some ((.rw b1), 0)) S26)))) (
 j1_1_1_1 (some ((.rw b1), 0)) S13))

def r4_j1_1_1_1 (call : CallA) (n : Nat)  (w1 : Option Pos) (S : AS) : Option (AV × AS) := evC E call n 4 (E.at 4 [1, 1, 1, 1]) 0 [(1, (.ptr w1))] S (retK E (E.fn 4))
def r4_j1_1_1_1_1_1 (call : CallA) (n : Nat)  (w1 : Option Pos) (S : AS) : Option (AV × AS) := evC E call n 4 (E.at 4 [1, 1, 1, 1, 1, 1]) 0 [(1, (.ptr w1))] S (retK E (E.fn 4))
def r4_j1_1_1_1_1_1_1_1 (call : CallA) (n : Nat)  (w1 : Option Pos) (S : AS) : Option (AV × AS) := evC E call n 4 (E.at 4 [1, 1, 1, 1, 1, 1, 1, 1]) 0 [(1, (.ptr w1))] S (retK E (E.fn 4))
theorem a4_j1_1_1_1 (call : CallA) (n : Nat)  (w1 : Option Pos) (S : AS) : r4_j1_1_1_1 call n  w1 S = b4_j1_1_1_1 call n (r4_j1_1_1_1_1_1 call n ) w1 S := by kernel_rfl
theorem a4_j1_1_1_1_1_1 (call : CallA) (n : Nat)  (w1 : Option Pos) (S : AS) : r4_j1_1_1_1_1_1 call n  w1 S = b4_j1_1_1_1_1_1 call n (r4_j1_1_1_1_1_1_1_1 call n ) w1 S := by kernel_rfl
theorem a4_j1_1_1_1_1_1_1_1 (call : CallA) (n : Nat)  (w1 : Option Pos) (S : AS) : r4_j1_1_1_1_1_1_1_1 call n  w1 S = b4_j1_1_1_1_1_1_1_1 call n  w1 S := by kernel_rfl
theorem a4_entry (call : CallA) (n : Nat) (x0 : List AV) (S : AS) : evC E call n 4 (E.at 4 []) 0 (enumT 0 [(.agg x0)]) S (retK E (E.fn 4)) = b4_entry call n (r4_j1_1_1_1 call n ) x0 S := by kernel_rfl
def J4_j1_1_1_1_1_1_1_1 (call : CallA) (n : Nat)  (w1 : Option Pos) (S : AS) : Option (AV × AS) := b4_j1_1_1_1_1_1_1_1 call n  w1 S
theorem h4_j1_1_1_1_1_1_1_1 (call : CallA) (n : Nat)  : r4_j1_1_1_1_1_1_1_1 call n  = J4_j1_1_1_1_1_1_1_1 call n  := by
  funext w1 S
  rw [J4_j1_1_1_1_1_1_1_1, a4_j1_1_1_1_1_1_1_1]
def J4_j1_1_1_1_1_1 (call : CallA) (n : Nat)  (w1 : Option Pos) (S : AS) : Option (AV × AS) := b4_j1_1_1_1_1_1 call n (J4_j1_1_1_1_1_1_1_1 call n ) w1 S
theorem h4_j1_1_1_1_1_1 (call : CallA) (n : Nat)  : r4_j1_1_1_1_1_1 call n  = J4_j1_1_1_1_1_1 call n  := by
  funext w1 S
  rw [J4_j1_1_1_1_1_1, a4_j1_1_1_1_1_1, h4_j1_1_1_1_1_1_1_1 call n ]
def J4_j1_1_1_1 (call : CallA) (n : Nat)  (w1 : Option Pos) (S : AS) : Option (AV × AS) := b4_j1_1_1_1 call n (J4_j1_1_1_1_1_1 call n ) w1 S
theorem h4_j1_1_1_1 (call : CallA) (n : Nat)  : r4_j1_1_1_1 call n  = J4_j1_1_1_1 call n  := by
  funext w1 S
  rw [J4_j1_1_1_1, a4_j1_1_1_1, h4_j1_1_1_1_1_1 call n ]
def J4 (call : CallA) (n : Nat) (x0 : List AV) (S : AS) : Option (AV × AS) := b4_entry call n (J4_j1_1_1_1 call n ) x0 S
theorem run4 (o : Orc) (n : Nat) (args : List AV) (S : AS) (ho : o 4 args = none) : evF E o (n + 1) (.fn 4) args S = evC E (evF E o n) n 4 (E.at 4 []) 0 (enumT 0 args) S (retK E (E.fn 4)) := by
  rw [evF, ho]; kernel_rfl
theorem J4_eq (call : CallA) (n : Nat) (x0 : List AV) (S : AS) : evC E call n 4 (E.at 4 []) 0 (enumT 0 [(.agg x0)]) S (retK E (E.fn 4)) = J4 call n x0 S := by
  rw [J4, a4_entry, h4_j1_1_1_1 call n ]
theorem F4 {o : Orc} (n : Nat) (x0 : List AV) (S : AS) (ho : ∀ args, o 4 args = none) : evF E o (n + 1) (.fn 4) [(.agg x0)] S = J4 (evF E o n) n x0 S := (run4 o n [(.agg x0)] S (ho _)).trans (J4_eq _ _ x0 S)
def b5_entry (call : CallA) (n : Nat)    (S : AS) : Option (AV × AS) :=
 callL call 27 [(.int .u8 1)] S fun v2a v2l v2c S1 =>
 newA S1 (.cells [(.int .i64 0), (.sl v2a v2l v2c)]) fun b3 S4 =>
 callT call 26 [(.ptr none), (.sl (some (.rw b3, 0)) 1 (.ex 1))] S4 fun v6 S5 =>
 atI .u64 v6 0 fun v7 =>
 atI .i64 v6 1 fun v8 =>
 callT call 28 [.nilIface, (.int .i64 0), (.int .i64 8)] S5 fun v10 S9 =>
 atP v10 0 fun v11 =>
 atL v10 1 fun v12a v12l v12c =>
 atI .i64 v10 2 fun v13 =>
 callB call 7 [] S9 fun v15 S14 =>
 cond v15 (
 cond (v7 == 0) (
 callI .i64 call 15 [(.int .i64 v8)] S14 fun v17 S16 =>
 cond (v17 == 7) (
 callI .i64 call 29 [(.ptr none)] S16 fun v19 S18 =>
 callI .i64 call 15 [(.int .i64 v19)] S18 fun v21 S20 =>
 cond (v21 == 7) (
 callI .i64 call 30 [(.ptr none), (.int .u64 0)] S20 fun v23 S22 =>
 callI .i64 call 15 [(.int .i64 v23)] S22 fun v25 S24 =>
 cond (v25 == 7) (
 callI .u64 call 31 [(.ptr none)] S24 fun v27 S26 =>
 cond (v27 == 0) (
 callI .u64 call 32 [(.ptr none)] S26 fun v29 S28 =>
 cond (v29 == 0) (
 callI .u64 call 33 [(.ptr none)] S28 fun v31 S30 =>
 cond (v31 == 0) (
 callI .i64 call 34 [(.ptr none)] S30 fun v33 S32 =>
 cond (v33 == 0) (
 callI .u64 call 35 [(.ptr none)] S32 fun v35 S34 =>
 cond (v35 == 0) (
 cond v11.isNone (
 cond (((v12l : Nat) : Int) == 0) (
 callI .i64 call 15 [(.int .i64 v13)] S34 fun v37 S36 =>
 cond (v37 == 7) (
 callI .i64 call 36 [.nilIface, (.int .i64 0), (.int .i64 8)] S36 fun v39 S38 =>
 callI .i64 call 15 [(.int .i64 v39)] S38 fun v41 S40 =>
 some ((.bool (v41 == 7)), S40)) (
 some ((.bool false), S36))) (
 some ((.bool false), S34))) (
 some ((.bool false), S34))) (
 some ((.bool false), S34))) (
 some ((.bool false), S32))) (
 some ((.bool false), S30))) (
 some ((.bool false), S28))) (
 some ((.bool false), S26))) (
 some ((.bool false), S24))) (
 some ((.bool false), S20))) (
 some ((.bool false), S16))) (
 some ((.bool false), S14))) (
 some ((.bool false), S14))

theorem a5_entry (call : CallA) (n : Nat)  (S : AS) : evC E call n 5 (E.at 5 []) 0 (enumT 0 []) S (retK E (E.fn 5)) = b5_entry call n   S := by kernel_rfl
def J5 (call : CallA) (n : Nat)  (S : AS) : Option (AV × AS) := b5_entry call n   S
theorem run5 (o : Orc) (n : Nat) (args : List AV) (S : AS) (ho : o 5 args = none) : evF E o (n + 1) (.fn 5) args S = evC E (evF E o n) n 5 (E.at 5 []) 0 (enumT 0 args) S (retK E (E.fn 5)) := by
  rw [evF, ho]; kernel_rfl
theorem J5_eq (call : CallA) (n : Nat)  (S : AS) : evC E call n 5 (E.at 5 []) 0 (enumT 0 []) S (retK E (E.fn 5)) = J5 call n  S := by
  rw [J5, a5_entry]
theorem F5 {o : Orc} (n : Nat)  (S : AS) (ho : ∀ args, o 5 args = none) : evF E o (n + 1) (.fn 5) [] S = J5 (evF E o n) n  S := (run5 o n [] S (ho _)).trans (J5_eq _ _  S)
def b6_l1_1_0_1_0 (call : CallA) (n : Nat)  (l1_1_0_1_0 : Option Pos → Int → Int → AS → Option (AV × AS)) (j1_1_1 : Option Pos → Int → AS → Option (AV × AS)) (w1 : Option Pos) (w3 : Int) (w4 : Int) (S : AS) : Option (AV × AS) :=
 gO w1 fun p5 =>
 ldL S p5.1 (p5.2 + 13) fun v6a v6l v6c =>
 cond (decide (w4 < ((v6l : Nat) : Int))) (
 cond (decide (w4 < 100)) (
 gO w1 fun p7 =>
 ldL S p7.1 (p7.2 + 13) fun v8a v8l v8c =>
 ixSl 2 v8a v8l w4 fun p9 =>
 ldL S p9.1 (p9.2 + 1) fun v10a v10l v10c =>
 l1_1_0_1_0 w1 (IntKind.wrap .i64 (w3 + ((v10l : Nat) : Int))) (IntKind.wrap .i64 (w4 + 1)) S) (
 j1_1_1 w1 w3 S)) (
 j1_1_1 w1 w3 S)

def b6_j1_1_1 (call : CallA) (n : Nat)   (w1 : Option Pos) (w3 : Int) (S : AS) : Option (AV × AS) :=
 cond (decide (w3 > 60000)) (
 some ((.bool true), S)) (
 gO w1 fun p11 =>
 ldL S p11.1 (p11.2 + 13) fun v12a v12l v12c =>
 some ((.bool (decide (((v12l : Nat) : Int) ≥ 100))), S))

def b6_entry (call : CallA) (n : Nat)  (l1_1_0_1_0 : Option Pos → Int → Int → AS → Option (AV × AS)) (x0 : List AV) (S : AS) : Option (AV × AS) :=
 ifO (x0.length = 16) <|
 newA S (.cells x0) fun b1 S2 =>
 ldL S2 (.rw b1) 6 fun v3a v3l v3c =>
 ldL S2 (.rw b1) 14 fun v4a v4l v4c =>
 l1_1_0_1_0 (some ((.rw b1), 0)) (IntKind.wrap .i64 (((v3l : Nat) : Int) + ((v4l : Nat) : Int))) 0 S2

def r6_l1_1_0_1_0 (call : CallA) (n : Nat)  (m : Nat) (w1 : Option Pos) (w3 : Int) (w4 : Int) (S : AS) : Option (AV × AS) := loopN (evC E call n 6 (E.at 6 [1, 1, 0, 1, 0, 0]) 0) [1, 3, 4] m [(1, (.ptr w1)), (3, (.int .i64 w3)), (4, (.int .i64 w4))] S (kBlk 0 (kSeq E call n 6 (E.at 6 [1, 1, 1]) 0 (retK E (E.fn 6))))
def r6_j1_1_1 (call : CallA) (n : Nat)  (w1 : Option Pos) (w3 : Int) (S : AS) : Option (AV × AS) := evC E call n 6 (E.at 6 [1, 1, 1]) 0 [(1, (.ptr w1)), (3, (.int .i64 w3))] S (retK E (E.fn 6))
theorem a6_l1_1_0_1_0 (call : CallA) (n : Nat)  (m : Nat) (w1 : Option Pos) (w3 : Int) (w4 : Int) (S : AS) : r6_l1_1_0_1_0 call n  (m + 1) w1 w3 w4 S = b6_l1_1_0_1_0 call n (r6_l1_1_0_1_0 call n  m) (r6_j1_1_1 call n ) w1 w3 w4 S := by kernel_rfl
theorem a6_j1_1_1 (call : CallA) (n : Nat)  (w1 : Option Pos) (w3 : Int) (S : AS) : r6_j1_1_1 call n  w1 w3 S = b6_j1_1_1 call n  w1 w3 S := by kernel_rfl
theorem a6_entry (call : CallA) (n : Nat) (x0 : List AV) (S : AS) : evC E call n 6 (E.at 6 []) 0 (enumT 0 [(.agg x0)]) S (retK E (E.fn 6)) = b6_entry call n (r6_l1_1_0_1_0 call n  n) x0 S := by kernel_rfl
def J6_j1_1_1 (call : CallA) (n : Nat)  (w1 : Option Pos) (w3 : Int) (S : AS) : Option (AV × AS) := b6_j1_1_1 call n  w1 w3 S
theorem h6_j1_1_1 (call : CallA) (n : Nat)  : r6_j1_1_1 call n  = J6_j1_1_1 call n  := by
  funext w1 w3 S
  rw [J6_j1_1_1, a6_j1_1_1]
def J6_l1_1_0_1_0 (call : CallA) (n : Nat)  (m : Nat) : Option Pos → Int → Int → AS → Option (AV × AS) := Nat.rec (motive := fun _ => Option Pos → Int → Int → AS → Option (AV × AS)) (fun _ _ _ _ => none) (fun mK ih w1 w3 w4 S => b6_l1_1_0_1_0 call n ih (J6_j1_1_1 call n ) w1 w3 w4 S) m
theorem J6_l1_1_0_1_0_succ (call : CallA) (n : Nat)  (m : Nat) (w1 : Option Pos) (w3 : Int) (w4 : Int) (S : AS) : J6_l1_1_0_1_0 call n  (m + 1) w1 w3 w4 S = b6_l1_1_0_1_0 call n (J6_l1_1_0_1_0 call n  m) (J6_j1_1_1 call n ) w1 w3 w4 S := rfl
theorem h6_l1_1_0_1_0 (call : CallA) (n : Nat)  (m : Nat) : r6_l1_1_0_1_0 call n  m = J6_l1_1_0_1_0 call n  m := by
  induction m with
  | zero => rfl
  | succ m ih =>
    funext w1 w3 w4 S
    rw [J6_l1_1_0_1_0_succ, a6_l1_1_0_1_0, h6_j1_1_1 call n , ih]
def J6 (call : CallA) (n : Nat) (x0 : List AV) (S : AS) : Option (AV × AS) := b6_entry call n (J6_l1_1_0_1_0 call n  n) x0 S
theorem run6 (o : Orc) (n : Nat) (args : List AV) (S : AS) (ho : o 6 args = none) : evF E o (n + 1) (.fn 6) args S = evC E (evF E o n) n 6 (E.at 6 []) 0 (enumT 0 args) S (retK E (E.fn 6)) := by
  rw [evF, ho]; kernel_rfl
theorem J6_eq (call : CallA) (n : Nat) (x0 : List AV) (S : AS) : evC E call n 6 (E.at 6 []) 0 (enumT 0 [(.agg x0)]) S (retK E (E.fn 6)) = J6 call n x0 S := by
  rw [J6, a6_entry, h6_l1_1_0_1_0 call n  n]
theorem F6 {o : Orc} (n : Nat) (x0 : List AV) (S : AS) (ho : ∀ args, o 6 args = none) : evF E o (n + 1) (.fn 6) [(.agg x0)] S = J6 (evF E o n) n x0 S := (run6 o n [(.agg x0)] S (ho _)).trans (J6_eq _ _ x0 S)
def b7_entry (call : CallA) (n : Nat)    (S : AS) : Option (AV × AS) :=
 callP call 37 [(.int .i64 9)] S fun v2 S1 =>
 callI .i64 call 36 [(.iface 73 (.ptr v2)), (.int .i64 1), (.int .i64 8)] S1 fun v4 S3 =>
 callI .i64 call 15 [(.int .i64 v4)] S3 fun v6 S5 =>
 cond (v6 != 0) (
 some ((.bool false), S5)) (
 callT call 28 [(.iface 73 (.ptr v2)), (.int .i64 1), (.int .i64 8)] S5 fun v8 S7 =>
 atP v8 0 fun v9 =>
 atL v8 1 fun v10a v10l v10c =>
 atI .i64 v8 2 fun v11 =>
 callI .i64 call 15 [(.int .i64 v11)] S7 fun v13 S12 =>
 cond (v13 != 0) (
 some ((.bool false), S12)) (
 cond v9.isNone (
 some ((.bool false), S12)) (
 cond (((v10l : Nat) : Int) != 0) (
 some ((.bool false), S12)) (
 callI .i64 call 34 [(.ptr v9)] S12 fun v15 S14 =>
 cond (v15 != 6) (
 some ((.bool false), S14)) (
 callL call 27 [(.int .u8 97)] S14 fun v17a v17l v17c S16 =>
 newA S16 (.cells [(.int .i64 7), (.sl v17a v17l v17c)]) fun b18 S19 =>
 callT call 26 [(.ptr v9), (.sl (some (.rw b18, 0)) 1 (.ex 1))] S19 fun v21 S20 =>
 atI .u64 v21 0 fun v22 =>
 atI .i64 v21 1 fun v23 =>
 callL call 27 [(.int .u8 98)] S20 fun v25a v25l v25c S24 =>
 newA S24 (.cells [(.int .i64 8), (.sl v25a v25l v25c)]) fun b26 S27 =>
 callT call 26 [(.ptr v9), (.sl (some (.rw b26, 0)) 1 (.ex 1))] S27 fun v29 S28 =>
 atI .u64 v29 0 fun v30 =>
 atI .i64 v29 1 fun v31 =>
 newA S28 (.cells [(.int .i64 2), (.int .i64 3)]) fun b32 S33 =>
 callT call 38 [(.ptr v2), (.sl (some (.rw b32, 0)) 2 (.ex 2))] S33 fun v35 S34 =>
 callT call 28 [(.iface 73 (.ptr v2)), (.int .i64 1), (.int .i64 8)] S34 fun v37 S36 =>
 atP v37 0 fun v38 =>
 atL v37 1 fun v39a v39l v39c =>
 atI .i64 v37 2 fun v40 =>
 callI .i64 call 15 [(.int .i64 v40)] S36 fun v42 S41 =>
 cond (v42 != 0) (
 some ((.bool false), S41)) (
 cond v38.isNone (
 some ((.bool false), S41)) (
 cond (((v39l : Nat) : Int) != 0) (
 some ((.bool false), S41)) (
 callL call 27 [(.int .u8 99)] S41 fun v44a v44l v44c S43 =>
 newA S43 (.cells [(.int .i64 9), (.sl v44a v44l v44c)]) fun b45 S46 =>
 callT call 26 [(.ptr v38), (.sl (some (.rw b45, 0)) 1 (.ex 1))] S46 fun v48 S47 =>
 atI .u64 v48 0 fun v49 =>
 atI .i64 v48 1 fun v50 =>
 callI .i64 call 29 [(.ptr v38)] S47 fun v52 S51 =>
 callT call 38 [(.ptr v2), (.sl none 0 (.ex 0))] S51 fun v54 S53 =>
 callT call 28 [(.iface 73 (.ptr v2)), (.int .i64 1), (.int .i64 8)] S53 fun v56 S55 =>
 atP v56 0 fun v57 =>
 atL v56 1 fun v58a v58l v58c =>
 atI .i64 v56 2 fun v59 =>
 cond (v22 == 1) (
 callI .i64 call 15 [(.int .i64 v23)] S55 fun v61 S60 =>
 cond (v61 == 0) (
 cond (v30 == 2) (
 callI .i64 call 15 [(.int .i64 v31)] S60 fun v63 S62 =>
 cond (v63 == 0) (
 cond (v49 == 1) (
 callI .i64 call 15 [(.int .i64 v50)] S62 fun v65 S64 =>
 cond (v65 == 0) (
 callI .i64 call 15 [(.int .i64 v52)] S64 fun v67 S66 =>
 cond (v67 == 0) (
 callI .i64 call 15 [(.int .i64 v59)] S66 fun v69 S68 =>
 cond (v69 == 0) (
 cond (((v58l : Nat) : Int) == 1) (
 ixSl 1 v58a v58l 0 fun p70 =>
 ldL S68 p70.1 p70.2 fun v71a v71l v71c =>
 cond (((v71l : Nat) : Int) == 1) (
 ixSl 1 v58a v58l 0 fun p72 =>
 ldL S68 p72.1 p72.2 fun v73a v73l v73c =>
 ixSl 2 v73a v73l 0 fun p74 =>
 ldI .i64 S68 p74.1 p74.2 fun v75 =>
 cond (v75 == 9) (
 ixSl 1 v58a v58l 0 fun p76 =>
 ldL S68 p76.1 p76.2 fun v77a v77l v77c =>
 ixSl 2 v77a v77l 0 fun p78 =>
 ldL S68 p78.1 (p78.2 + 1) fun v79a v79l v79c =>
 bytesStr S68 v79a v79l fun s80 =>
 callL call 27 [(.int .u8 99)] S68 fun v82a v82l v82c S81 =>
 bytesStr S81 v79a v79l fun s83 =>
 cond (AV.beq (.str s83) (.str s80)) (
 ldL S81 p78.1 (p78.2 + 1) fun v84a v84l v84c =>
 cond (AV.beq (.sl v84a v84l v84c) (.sl v79a v79l v79c)) (
 ldL S81 p76.1 p76.2 fun v85a v85l v85c =>
 cond (AV.beq (.sl v85a v85l v85c) (.sl v77a v77l v77c)) (
 bytesStr S81 v82a v82l fun s86 =>
 cond (s80 == s86) (
 callI .u64 call 35 [(.ptr v38)] S81 fun v88 S87 =>
 cond (v88 == 3) (
 callI .i64 call 16 [(.int .i64 1)] S87 fun v90 S89 =>
 some ((.bool (v90 == 2)), S89)) (
 some ((.bool false), S87))) (
 some ((.bool false), S81))) none) none) none) (
 some ((.bool false), S68))) (
 some ((.bool false), S68))) (
 some ((.bool false), S68))) (
 some ((.bool false), S68))) (
 some ((.bool false), S66))) (
 some ((.bool false), S64))) (
 some ((.bool false), S62))) (
 some ((.bool false), S62))) (
 some ((.bool false), S60))) (
 some ((.bool false), S60))) (
 some ((.bool false), S55))))))))))

theorem a7_entry (call : CallA) (n : Nat)  (S : AS) : evC E call n 7 (E.at 7 []) 0 (enumT 0 []) S (retK E (E.fn 7)) = b7_entry call n   S := by kernel_rfl
def J7 (call : CallA) (n : Nat)  (S : AS) : Option (AV × AS) := b7_entry call n   S
theorem run7 (o : Orc) (n : Nat) (args : List AV) (S : AS) (ho : o 7 args = none) : evF E o (n + 1) (.fn 7) args S = evC E (evF E o n) n 7 (E.at 7 []) 0 (enumT 0 args) S (retK E (E.fn 7)) := by
  rw [evF, ho]; kernel_rfl
theorem J7_eq (call : CallA) (n : Nat)  (S : AS) : evC E call n 7 (E.at 7 []) 0 (enumT 0 []) S (retK E (E.fn 7)) = J7 call n  S := by
  rw [J7, a7_entry]
theorem F7 {o : Orc} (n : Nat)  (S : AS) (ho : ∀ args, o 7 args = none) : evF E o (n + 1) (.fn 7) [] S = J7 (evF E o n) n  S := (run7 o n [] S (ho _)).trans (J7_eq _ _  S)
def b8_l1_1_1_0_1_0 (call : CallA) (n : Nat)  (l1_1_1_0_1_0 : Option Pos → Option Pos → Nat → Cap → Option Pos → Nat → Cap → Int → Int → AS → Option (AV × AS)) (j1_1_1_1 : Option Pos → Option Pos → Nat → Cap → AS → Option (AV × AS)) (w1 : Option Pos) (w4a : Option Pos) (w4l : Nat) (w4c : Cap) (w79a : Option Pos) (w79l : Nat) (w79c : Cap) (w80 : Int) (w81 : Int) (S : AS) : Option (AV × AS) :=
 cond (decide (w81 < w80)) (
 ixSl 1 w79a w79l w81 fun p31 =>
 ldI .u64 S p31.1 p31.2 fun v32 =>
 callL call 40 [(.sl w4a w4l w4c), (.int .u64 v32), (.int .i64 8)] S fun v34a v34l v34c S33 =>
 l1_1_1_0_1_0 w1 v34a v34l v34c w79a w79l w79c w80 (IntKind.wrap .i64 (w81 + 1)) S33) (
 j1_1_1_1 w1 w4a w4l w4c S)

def b8_j1_1_1_1 (call : CallA) (n : Nat)  (l1_1_1_1_0_1_0 : Option Pos → Option Pos → Nat → Cap → Option Pos → Nat → Cap → Int → Int → AS → Option (AV × AS)) (w1 : Option Pos) (w4a : Option Pos) (w4l : Nat) (w4c : Cap) (S : AS) : Option (AV × AS) :=
 gO w1 fun p35 =>
 ldI .i64 S p35.1 (p35.2 + 4) fun v36 =>
 gO w1 fun p37 =>
 ldI .i64 S p37.1 (p37.2 + 5) fun v38 =>
 gO w1 fun p39 =>
 ldL S p39.1 (p39.2 + 6) fun v40a v40l v40c =>
 newA S (.cells [(.int .i64 v36), (.int .i64 v38), (.int .i64 ((v40l : Nat) : Int))]) fun b41 S42 =>
 l1_1_1_1_0_1_0 w1 w4a w4l w4c (some (.rw b41, 0)) 3 (.ex 3) ((3 : Nat) : Int) 0 S42

def b8_l1_1_1_1_0_1_0 (call : CallA) (n : Nat)  (l1_1_1_1_0_1_0 : Option Pos → Option Pos → Nat → Cap → Option Pos → Nat → Cap → Int → Int → AS → Option (AV × AS)) (j1_1_1_1_1 : Option Pos → Option Pos → Nat → Cap → AS → Option (AV × AS)) (w1 : Option Pos) (w4a : Option Pos) (w4l : Nat) (w4c : Cap) (w96a : Option Pos) (w96l : Nat) (w96c : Cap) (w97 : Int) (w98 : Int) (S : AS) : Option (AV × AS) :=
 cond (decide (w98 < w97)) (
 ixSl 1 w96a w96l w98 fun p43 =>
 ldI .i64 S p43.1 p43.2 fun v44 =>
 callL call 40 [(.sl w4a w4l w4c), (.int .u64 (IntKind.wrap .u64 v44)), (.int .i64 2)] S fun v46a v46l v46c S45 =>
 l1_1_1_1_0_1_0 w1 v46a v46l v46c w96a w96l w96c w97 (IntKind.wrap .i64 (w98 + 1)) S45) (
 j1_1_1_1_1 w1 w4a w4l w4c S)

def b8_j1_1_1_1_1 (call : CallA) (n : Nat)   (w1 : Option Pos) (w4a : Option Pos) (w4l : Nat) (w4c : Cap) (S : AS) : Option (AV × AS) :=
 appendZA 1 1 [(.int .u8 0)] S w4a w4l w4c (IntKind.wrap .i64 (48 - ((w4l : Nat) : Int))) fun v47a v47l v47c S48 =>
 gO w1 fun p49 =>
 ldL S48 p49.1 (p49.2 + 6) fun v50a v50l v50c =>
 appendA 1 1 S48 v47a v47l v47c v50l (firstA S48 1 v50l (.sl v50a v50l v50c)) fun v51a v51l v51c S52 =>
 callL call 41 [(.sl v51a v51l v51c)] S52 fun v54a v54l v54c S53 =>
 some (.tup [(.sl v54a v54l v54c), (.int .i64 0)], S53)

def b8_entry (call : CallA) (n : Nat)  (l1_1_1_0_1_0 : Option Pos → Option Pos → Nat → Cap → Option Pos → Nat → Cap → Int → Int → AS → Option (AV × AS)) (x0 : List AV) (S : AS) : Option (AV × AS) :=
 ifO (x0.length = 7) <|
 newA S (.cells x0) fun b1 S2 =>
 ldI .u64 S2 (.rw b1) 0 fun v3 =>
 cond (v3 == 0) (
 some (.tup [(.sl none 0 (.ex 0)), (.int .i64 81)], S2)) (
 ldI .u64 S2 (.rw b1) 1 fun v4 =>
 cond (v4 == 0) (
 some (.tup [(.sl none 0 (.ex 0)), (.int .i64 81)], S2)) (
 ldI .u64 S2 (.rw b1) 3 fun v5 =>
 cond (v5 == 0) (
 some (.tup [(.sl none 0 (.ex 0)), (.int .i64 81)], S2)) (
 ldI .u64 S2 (.rw b1) 0 fun v6 =>
 ldI .u64 S2 (.rw b1) 1 fun v7 =>
 ldI .u64 S2 (.rw b1) 3 fun v8 =>
 ldI .u64 S2 (.rw b1) 2 fun v9 =>
 newA S2 (.cells [(.int .u64 v6), (.int .u64 v7), (.int .u64 v8), (.int .u64 v9)]) fun b10 S11 =>
 callB call 39 [(.sl (some (.rw b10, 0)) 4 (.ex 4))] S11 fun v13 S12 =>
 cond (!v13) (
 some (.tup [(.sl none 0 (.ex 0)), (.int .i64 81)], S12)) (
 ldI .i64 S12 (.rw b1) 5 fun v14 =>
 cond (decide (v14 < 1)) (
 some (.tup [(.sl none 0 (.ex 0)), (.int .i64 81)], S12)) (
 ldI .i64 S12 (.rw b1) 5 fun v15 =>
 cond (decide (v15 > 100)) (
 some (.tup [(.sl none 0 (.ex 0)), (.int .i64 81)], S12)) (
 ldI .i64 S12 (.rw b1) 4 fun v16 =>
 cond (decide (v16 < 0)) (
 some (.tup [(.sl none 0 (.ex 0)), (.int .i64 81)], S12)) (
 ldI .i64 S12 (.rw b1) 4 fun v17 =>
 ldI .i64 S12 (.rw b1) 5 fun v18 =>
 cond (decide (v17 ≥ v18)) (
 some (.tup [(.sl none 0 (.ex 0)), (.int .i64 81)], S12)) (
 ldL S12 (.rw b1) 6 fun v19a v19l v19c =>
 cond (((v19l : Nat) : Int) == 0) (
 some (.tup [(.sl none 0 (.ex 0)), (.int .i64 81)], S12)) (
 ldL S12 (.rw b1) 6 fun v20a v20l v20c =>
 cond (decide (((v20l : Nat) : Int) > 336)) (
 some (.tup [(.sl none 0 (.ex 0)), (.int .i64 81)], S12)) (
 newA S12 (.cells [(.int .u8 74), (.int .u8 76), (.int .u8 79), (.int .u8 71)]) fun b21 S22 =>
 convLL S22 (some (.rw b21, 0)) 4 (.ex 4) fun v24a v24l v24c S23 =>
 ldI .u64 S23 (.rw b1) 0 fun v25 =>
 ldI .u64 S23 (.rw b1) 1 fun v26 =>
 ldI .u64 S23 (.rw b1) 2 fun v27 =>
 ldI .u64 S23 (.rw b1) 3 fun v28 =>
 newA S23 (.cells [(.int .u64 v25), (.int .u64 v26), (.int .u64 v27), (.int .u64 v28)]) fun b29 S30 =>
 l1_1_1_0_1_0 (some ((.rw b1), 0)) v24a v24l v24c (some (.rw b29, 0)) 4 (.ex 4) ((4 : Nat) : Int) 0 S30))))))))))

def r8_l1_1_1_0_1_0 (call : CallA) (n : Nat)  (m : Nat) (w1 : Option Pos) (w4a : Option Pos) (w4l : Nat) (w4c : Cap) (w79a : Option Pos) (w79l : Nat) (w79c : Cap) (w80 : Int) (w81 : Int) (S : AS) : Option (AV × AS) := loopN (evC E call n 8 (E.at 8 [1, 1, 1, 0, 1, 0, 0]) 0) [1, 4, 79, 80, 81] m [(1, (.ptr w1)), (4, (.sl w4a w4l w4c)), (79, (.sl w79a w79l w79c)), (80, (.int .i64 w80)), (81, (.int .i64 w81))] S (kBlk 0 (kSeq E call n 8 (E.at 8 [1, 1, 1, 1]) 0 (retK E (E.fn 8))))
def r8_j1_1_1_1 (call : CallA) (n : Nat)  (w1 : Option Pos) (w4a : Option Pos) (w4l : Nat) (w4c : Cap) (S : AS) : Option (AV × AS) := evC E call n 8 (E.at 8 [1, 1, 1, 1]) 0 [(1, (.ptr w1)), (4, (.sl w4a w4l w4c))] S (retK E (E.fn 8))
def r8_l1_1_1_1_0_1_0 (call : CallA) (n : Nat)  (m : Nat) (w1 : Option Pos) (w4a : Option Pos) (w4l : Nat) (w4c : Cap) (w96a : Option Pos) (w96l : Nat) (w96c : Cap) (w97 : Int) (w98 : Int) (S : AS) : Option (AV × AS) := loopN (evC E call n 8 (E.at 8 [1, 1, 1, 1, 0, 1, 0, 0]) 2) [1, 4, 96, 97, 98] m [(1, (.ptr w1)), (4, (.sl w4a w4l w4c)), (96, (.sl w96a w96l w96c)), (97, (.int .i64 w97)), (98, (.int .i64 w98))] S (kBlk 2 (kSeq E call n 8 (E.at 8 [1, 1, 1, 1, 1]) 0 (retK E (E.fn 8))))
def r8_j1_1_1_1_1 (call : CallA) (n : Nat)  (w1 : Option Pos) (w4a : Option Pos) (w4l : Nat) (w4c : Cap) (S : AS) : Option (AV × AS) := evC E call n 8 (E.at 8 [1, 1, 1, 1, 1]) 0 [(1, (.ptr w1)), (4, (.sl w4a w4l w4c))] S (retK E (E.fn 8))
theorem a8_l1_1_1_0_1_0 (call : CallA) (n : Nat)  (m : Nat) (w1 : Option Pos) (w4a : Option Pos) (w4l : Nat) (w4c : Cap) (w79a : Option Pos) (w79l : Nat) (w79c : Cap) (w80 : Int) (w81 : Int) (S : AS) : r8_l1_1_1_0_1_0 call n  (m + 1) w1 w4a w4l w4c w79a w79l w79c w80 w81 S = b8_l1_1_1_0_1_0 call n (r8_l1_1_1_0_1_0 call n  m) (r8_j1_1_1_1 call n ) w1 w4a w4l w4c w79a w79l w79c w80 w81 S := by kernel_rfl
theorem a8_j1_1_1_1 (call : CallA) (n : Nat)  (w1 : Option Pos) (w4a : Option Pos) (w4l : Nat) (w4c : Cap) (S : AS) : r8_j1_1_1_1 call n  w1 w4a w4l w4c S = b8_j1_1_1_1 call n (r8_l1_1_1_1_0_1_0 call n  n) w1 w4a w4l w4c S := by kernel_rfl
theorem a8_l1_1_1_1_0_1_0 (call : CallA) (n : Nat)  (m : Nat) (w1 : Option Pos) (w4a : Option Pos) (w4l : Nat) (w4c : Cap) (w96a : Option Pos) (w96l : Nat) (w96c : Cap) (w97 : Int) (w98 : Int) (S : AS) : r8_l1_1_1_1_0_1_0 call n  (m + 1) w1 w4a w4l w4c w96a w96l w96c w97 w98 S = b8_l1_1_1_1_0_1_0 call n (r8_l1_1_1_1_0_1_0 call n  m) (r8_j1_1_1_1_1 call n ) w1 w4a w4l w4c w96a w96l w96c w97 w98 S := by kernel_rfl
theorem a8_j1_1_1_1_1 (call : CallA) (n : Nat)  (w1 : Option Pos) (w4a : Option Pos) (w4l : Nat) (w4c : Cap) (S : AS) : r8_j1_1_1_1_1 call n  w1 w4a w4l w4c S = b8_j1_1_1_1_1 call n  w1 w4a w4l w4c S := by kernel_rfl
theorem a8_entry (call : CallA) (n : Nat) (x0 : List AV) (S : AS) : evC E call n 8 (E.at 8 []) 0 (enumT 0 [(.agg x0)]) S (retK E (E.fn 8)) = b8_entry call n (r8_l1_1_1_0_1_0 call n  n) x0 S := by kernel_rfl
def J8_j1_1_1_1_1 (call : CallA) (n : Nat)  (w1 : Option Pos) (w4a : Option Pos) (w4l : Nat) (w4c : Cap) (S : AS) : Option (AV × AS) := b8_j1_1_1_1_1 call n  w1 w4a w4l w4c S
theorem h8_j1_1_1_1_1 (call : CallA) (n : Nat)  : r8_j1_1_1_1_1 call n  = J8_j1_1_1_1_1 call n  := by
  funext w1 w4a w4l w4c S
  rw [J8_j1_1_1_1_1, a8_j1_1_1_1_1]
def J8_l1_1_1_1_0_1_0 (call : CallA) (n : Nat)  (m : Nat) : Option Pos → Option Pos → Nat → Cap → Option Pos → Nat → Cap → Int → Int → AS → Option (AV × AS) := Nat.rec (motive := fun _ => Option Pos → Option Pos → Nat → Cap → Option Pos → Nat → Cap → Int → Int → AS → Option (AV × AS)) (fun _ _ _ _ _ _ _ _ _ _ => none) (fun mK ih w1 w4a w4l w4c w96a w96l w96c w97 w98 S => b8_l1_1_1_1_0_1_0 call n ih (J8_j1_1_1_1_1 call n ) w1 w4a w4l w4c w96a w96l w96c w97 w98 S) m
theorem J8_l1_1_1_1_0_1_0_succ (call : CallA) (n : Nat)  (m : Nat) (w1 : Option Pos) (w4a : Option Pos) (w4l : Nat) (w4c : Cap) (w96a : Option Pos) (w96l : Nat) (w96c : Cap) (w97 : Int) (w98 : Int) (S : AS) : J8_l1_1_1_1_0_1_0 call n  (m + 1) w1 w4a w4l w4c w96a w96l w96c w97 w98 S = b8_l1_1_1_1_0_1_0 call n (J8_l1_1_1_1_0_1_0 call n  m) (J8_j1_1_1_1_1 call n ) w1 w4a w4l w4c w96a w96l w96c w97 w98 S := rfl
theorem h8_l1_1_1_1_0_1_0 (call : CallA) (n : Nat)  (m : Nat) : r8_l1_1_1_1_0_1_0 call n  m = J8_l1_1_1_1_0_1_0 call n  m := by
  induction m with
  | zero => rfl
  | succ m ih =>
    funext w1 w4a w4l w4c w96a w96l w96c w97 w98 S
    rw [J8_l1_1_1_1_0_1_0_succ, a8_l1_1_1_1_0_1_0, h8_j1_1_1_1_1 call n , ih]
def J8_j1_1_1_1 (call : CallA) (n : Nat)  (w1 : Option Pos) (w4a : Option Pos) (w4l : Nat) (w4c : Cap) (S : AS) : Option (AV × AS) := b8_j1_1_1_1 call n (J8_l1_1_1_1_0_1_0 call n  n) w1 w4a w4l w4c S
theorem h8_j1_1_1_1 (call : CallA) (n : Nat)  : r8_j1_1_1_1 call n  = J8_j1_1_1_1 call n  := by
  funext w1 w4a w4l w4c S
  rw [J8_j1_1_1_1, a8_j1_1_1_1, h8_l1_1_1_1_0_1_0 call n  n]
def J8_l1_1_1_0_1_0 (call : CallA) (n : Nat)  (m : Nat) : Option Pos → Option Pos → Nat → Cap → Option Pos → Nat → Cap → Int → Int → AS → Option (AV × AS) := Nat.rec (motive := fun _ => Option Pos → Option Pos → Nat → Cap → Option Pos → Nat → Cap → Int → Int → AS → Option (AV × AS)) (fun _ _ _ _ _ _ _ _ _ _ => none) (fun mK ih w1 w4a w4l w4c w79a w79l w79c w80 w81 S => b8_l1_1_1_0_1_0 call n ih (J8_j1_1_1_1 call n ) w1 w4a w4l w4c w79a w79l w79c w80 w81 S) m
theorem J8_l1_1_1_0_1_0_succ (call : CallA) (n : Nat)  (m : Nat) (w1 : Option Pos) (w4a : Option Pos) (w4l : Nat) (w4c : Cap) (w79a : Option Pos) (w79l : Nat) (w79c : Cap) (w80 : Int) (w81 : Int) (S : AS) : J8_l1_1_1_0_1_0 call n  (m + 1) w1 w4a w4l w4c w79a w79l w79c w80 w81 S = b8_l1_1_1_0_1_0 call n (J8_l1_1_1_0_1_0 call n  m) (J8_j1_1_1_1 call n ) w1 w4a w4l w4c w79a w79l w79c w80 w81 S := rfl
theorem h8_l1_1_1_0_1_0 (call : CallA) (n : Nat)  (m : Nat) : r8_l1_1_1_0_1_0 call n  m = J8_l1_1_1_0_1_0 call n  m := by
  induction m with
  | zero => rfl
  | succ m ih =>
    funext w1 w4a w4l w4c w79a w79l w79c w80 w81 S
    rw [J8_l1_1_1_0_1_0_succ, a8_l1_1_1_0_1_0, h8_j1_1_1_1 call n , ih]
def J8 (call : CallA) (n : Nat) (x0 : List AV) (S : AS) : Option (AV × AS) := b8_entry call n (J8_l1_1_1_0_1_0 call n  n) x0 S
theorem run8 (o : Orc) (n : Nat) (args : List AV) (S : AS) (ho : o 8 args = none) : evF E o (n + 1) (.fn 8) args S = evC E (evF E o n) n 8 (E.at 8 []) 0 (enumT 0 args) S (retK E (E.fn 8)) := by
  rw [evF, ho]; kernel_rfl
theorem J8_eq (call : CallA) (n : Nat) (x0 : List AV) (S : AS) : evC E call n 8 (E.at 8 []) 0 (enumT 0 [(.agg x0)]) S (retK E (E.fn 8)) = J8 call n x0 S := by
  rw [J8, a8_entry, h8_l1_1_1_0_1_0 call n  n]
theorem F8 {o : Orc} (n : Nat) (x0 : List AV) (S : AS) (ho : ∀ args, o 8 args = none) : evF E o (n + 1) (.fn 8) [(.agg x0)] S = J8 (evF E o n) n x0 S := (run8 o n [(.agg x0)] S (ho _)).trans (J8_eq _ _ x0 S)
def b9_entry (call : CallA) (n : Nat)   (x0 : List AV) (S : AS) : Option (AV × AS) :=
 ifO (x0.length = 7) <|
 newA S (.cells x0) fun b1 S2 =>
 ldI .u64 S2 (.rw b1) 0 fun v3 =>
 cond (v3 == 0) (
 some (.tup [(.sl none 0 (.ex 0)), (.int .i64 81)], S2)) (
 ldI .u64 S2 (.rw b1) 1 fun v4 =>
 cond (v4 == 0) (
 some (.tup [(.sl none 0 (.ex 0)), (.int .i64 81)], S2)) (
 ldI .u64 S2 (.rw b1) 3 fun v5 =>
 cond (v5 == 0) (
 some (.tup [(.sl none 0 (.ex 0)), (.int .i64 81)], S2)) (
 ldI .u64 S2 (.rw b1) 0 fun v6 =>
 cond (decide (v6 > 4611686018427387904)) (
 some (.tup [(.sl none 0 (.ex 0)), (.int .i64 81)], S2)) (
 ldI .u64 S2 (.rw b1) 1 fun v7 =>
 cond (decide (v7 > 4611686018427387904)) (
 some (.tup [(.sl none 0 (.ex 0)), (.int .i64 81)], S2)) (
 ldI .u64 S2 (.rw b1) 3 fun v8 =>
 cond (decide (v8 > 4611686018427387904)) (
 some (.tup [(.sl none 0 (.ex 0)), (.int .i64 81)], S2)) (
 ldI .u64 S2 (.rw b1) 2 fun v9 =>
 cond (decide (v9 > 4611686018427387904)) (
 some (.tup [(.sl none 0 (.ex 0)), (.int .i64 81)], S2)) (
 ldI .i64 S2 (.rw b1) 5 fun v10 =>
 cond (decide (v10 < 1)) (
 some (.tup [(.sl none 0 (.ex 0)), (.int .i64 81)], S2)) (
 ldI .i64 S2 (.rw b1) 5 fun v11 =>
 cond (decide (v11 > 100)) (
 some (.tup [(.sl none 0 (.ex 0)), (.int .i64 81)], S2)) (
 ldI .i64 S2 (.rw b1) 4 fun v12 =>
 cond (decide (v12 < 0)) (
 some (.tup [(.sl none 0 (.ex 0)), (.int .i64 81)], S2)) (
 ldI .i64 S2 (.rw b1) 4 fun v13 =>
 ldI .i64 S2 (.rw b1) 5 fun v14 =>
 cond (decide (v13 ≥ v14)) (
 some (.tup [(.sl none 0 (.ex 0)), (.int .i64 81)], S2)) (
 ldL S2 (.rw b1) 6 fun v15a v15l v15c =>
 cond (decide (((v15l : Nat) : Int) < 1)) (
 some (.tup [(.sl none 0 (.ex 0)), (.int .i64 81)], S2)) (
 ldL S2 (.rw b1) 6 fun v16a v16l v16c =>
 cond (decide (((v16l : Nat) : Int) > 336)) (
 some (.tup [(.sl none 0 (.ex 0)), (.int .i64 81)], S2)) (
 drawA S2 9 fun b17 S18 =>
 layA S18 (b17 + 0) (.cells [(.int .u8 74), (.int .u8 76), (.int .u8 79), (.int .u8 71)]) fun S19 =>
 convLL S19 (some (.rw (b17 + 0), 0)) 4 (.ex 4) fun v21a v21l v21c S20 =>
 ldI .u64 S20 (.rw b1) 0 fun v22 =>
 ldI .u64 S18 (.rw b1) 0 fun v23 =>
 cond (AV.beq (.int .u64 v23) (.int .u64 v22)) (
 callL call 42 [(.sl v21a v21l v21c), (.int .u64 v22), (.int .i64 8)] S20 fun v25a v25l v25c S24 =>
 ldI .u64 S24 (.rw b1) 1 fun v26 =>
 ldI .u64 S20 (.rw b1) 1 fun v27 =>
 cond (AV.beq (.int .u64 v27) (.int .u64 v26)) (
 ldI .u64 S18 (.rw b1) 1 fun v28 =>
 cond (AV.beq (.int .u64 v28) (.int .u64 v26)) (
 callL call 42 [(.sl v25a v25l v25c), (.int .u64 v26), (.int .i64 8)] S24 fun v30a v30l v30c S29 =>
 ldI .u64 S29 (.rw b1) 2 fun v31 =>
 callL call 42 [(.sl v30a v30l v30c), (.int .u64 v31), (.int .i64 8)] S29 fun v33a v33l v33c S32 =>
 ldI .u64 S32 (.rw b1) 3 fun v34 =>
 ldI .u64 S29 (.rw b1) 3 fun v35 =>
 cond (AV.beq (.int .u64 v35) (.int .u64 v34)) (
 callL call 42 [(.sl v33a v33l v33c), (.int .u64 v34), (.int .i64 8)] S32 fun v37a v37l v37c S36 =>
 ldI .i64 S36 (.rw b1) 4 fun v38 =>
 callL call 42 [(.sl v37a v37l v37c), (.int .u64 (IntKind.wrap .u64 v38)), (.int .i64 2)] S36 fun v40a v40l v40c S39 =>
 ldI .i64 S39 (.rw b1) 5 fun v41 =>
 ldI .i64 S36 (.rw b1) 5 fun v42 =>
 cond (AV.beq (.int .i64 v42) (.int .i64 v41)) (
 callL call 42 [(.sl v40a v40l v40c), (.int .u64 (IntKind.wrap .u64 v41)), (.int .i64 2)] S39 fun v44a v44l v44c S43 =>
 ldL S43 (.rw b1) 6 fun v45a v45l v45c =>
 ldL S39 (.rw b1) 6 fun v46a v46l v46c =>
 cond (AV.beq (.sl v46a v46l v46c) (.sl v45a v45l v45c)) (
 ldL S36 (.rw b1) 6 fun v47a v47l v47c =>
 cond (AV.beq (.sl v47a v47l v47c) (.sl v45a v45l v45c)) (
 cond (AV.beq (.int .i64 ((v45l : Nat) : Int)) (.int .i64 ((v45l : Nat) : Int))) (
 cond (AV.beq (.int .i64 ((v45l : Nat) : Int)) (.int .i64 ((v45l : Nat) : Int))) (
 callL call 42 [(.sl v44a v44l v44c), (.int .u64 (IntKind.wrap .u64 ((v45l : Nat) : Int))), (.int .i64 2)] S43 fun v49a v49l v49c S48 =>
 appendZA 1 1 [(.int .u8 0)] S48 v49a v49l v49c 6 fun v50a v50l v50c S51 =>
 ldL S51 (.rw b1) 6 fun v52a v52l v52c =>
 ldL S48 (.rw b1) 6 fun v53a v53l v53c =>
 cond (AV.beq (.sl v53a v53l v53c) (.sl v52a v52l v52c)) (
 appendA 1 1 S51 v50a v50l v50c v52l (firstA S51 1 v52l (.sl v52a v52l v52c)) fun v54a v54l v54c S55 =>
 callL call 43 [(.sl v54a v54l v54c)] S55 fun v57a v57l v57c S56 =>
 some (.tup [(.sl v57a v57l v57c), (.int .i64 0)], S56)) none) none) none) none) none) none) none) none) none) none)))))))))))))

theorem a9_entry (call : CallA) (n : Nat) (x0 : List AV) (S : AS) : evC E call n 9 (E.at 9 []) 0 (enumT 0 [(.agg x0)]) S (retK E (E.fn 9)) = b9_entry call n  x0 S := by kernel_rfl
def J9 (call : CallA) (n : Nat) (x0 : List AV) (S : AS) : Option (AV × AS) := b9_entry call n  x0 S
theorem run9 (o : Orc) (n : Nat) (args : List AV) (S : AS) (ho : o 9 args = none) : evF E o (n + 1) (.fn 9) args S = evC E (evF E o n) n 9 (E.at 9 []) 0 (enumT 0 args) S (retK E (E.fn 9)) := by
  rw [evF, ho]; kernel_rfl
theorem J9_eq (call : CallA) (n : Nat) (x0 : List AV) (S : AS) : evC E call n 9 (E.at 9 []) 0 (enumT 0 [(.agg x0)]) S (retK E (E.fn 9)) = J9 call n x0 S := by
  rw [J9, a9_entry]
theorem F9 {o : Orc} (n : Nat) (x0 : List AV) (S : AS) (ho : ∀ args, o 9 args = none) : evF E o (n + 1) (.fn 9) [(.agg x0)] S = J9 (evF E o n) n x0 S := (run9 o n [(.agg x0)] S (ho _)).trans (J9_eq _ _ x0 S)
def b10_l1_1_1_1_0_1_0 (call : CallA) (n : Nat)  (l1_1_1_1_0_1_0 : Option Pos → Nat → Cap → Option Pos → Nat → Cap → Int → Int → AS → Option (AV × AS)) (j1_1_1_1_1 : Option Pos → Nat → Cap → AS → Option (AV × AS)) (w5a : Option Pos) (w5l : Nat) (w5c : Cap) (w36a : Option Pos) (w36l : Nat) (w36c : Cap) (w37 : Int) (w38 : Int) (S : AS) : Option (AV × AS) :=
 cond (decide (w38 < w37)) (
 ixSl 1 w36a w36l w38 fun p19 =>
 ldI .u64 S p19.1 p19.2 fun v20 =>
 callL call 40 [(.sl w5a w5l w5c), (.int .u64 v20), (.int .i64 8)] S fun v22a v22l v22c S21 =>
 l1_1_1_1_0_1_0 v22a v22l v22c w36a w36l w36c w37 (IntKind.wrap .i64 (w38 + 1)) S21) (
 j1_1_1_1_1 w5a w5l w5c S)

def b10_j1_1_1_1_1 (call : CallA) (n : Nat)   (w5a : Option Pos) (w5l : Nat) (w5c : Cap) (S : AS) : Option (AV × AS) :=
 callL call 41 [(.sl w5a w5l w5c)] S fun v24a v24l v24c S23 =>
 some (.tup [(.sl v24a v24l v24c), (.int .i64 0)], S23)

def b10_entry (call : CallA) (n : Nat)  (l1_1_1_1_0_1_0 : Option Pos → Nat → Cap → Option Pos → Nat → Cap → Int → Int → AS → Option (AV × AS)) (x0 : List AV) (S : AS) : Option (AV × AS) :=
 ifO (x0.length = 6) <|
 newA S (.cells x0) fun b1 S2 =>
 ldI .u64 S2 (.rw b1) 0 fun v3 =>
 ldI .u64 S2 (.rw b1) 1 fun v4 =>
 ldI .u64 S2 (.rw b1) 2 fun v5 =>
 ldI .u64 S2 (.rw b1) 3 fun v6 =>
 ldI .u64 S2 (.rw b1) 4 fun v7 =>
 ldI .u64 S2 (.rw b1) 5 fun v8 =>
 newA S2 (.cells [(.int .u64 v3), (.int .u64 v4), (.int .u64 v5), (.int .u64 v6), (.int .u64 v7), (.int .u64 v8)]) fun b9 S10 =>
 ldI .u64 S10 (.rw b1) 0 fun v11 =>
 cond (v11 == 0) (
 some (.tup [(.sl none 0 (.ex 0)), (.int .i64 81)], S10)) (
 ldI .u64 S10 (.rw b1) 1 fun v12 =>
 cond (v12 == 0) (
 some (.tup [(.sl none 0 (.ex 0)), (.int .i64 81)], S10)) (
 callB call 39 [(.sl (some (.rw b9, 0)) 6 (.ex 6))] S10 fun v14 S13 =>
 cond (!v14) (
 some (.tup [(.sl none 0 (.ex 0)), (.int .i64 81)], S13)) (
 newA S13 (.cells [(.int .u8 74), (.int .u8 83), (.int .u8 85), (.int .u8 80)]) fun b15 S16 =>
 convLL S16 (some (.rw b15, 0)) 4 (.ex 4) fun v18a v18l v18c S17 =>
 l1_1_1_1_0_1_0 v18a v18l v18c (some (.rw b9, 0)) 6 (.ex 6) ((6 : Nat) : Int) 0 S17)))

def r10_l1_1_1_1_0_1_0 (call : CallA) (n : Nat)  (m : Nat) (w5a : Option Pos) (w5l : Nat) (w5c : Cap) (w36a : Option Pos) (w36l : Nat) (w36c : Cap) (w37 : Int) (w38 : Int) (S : AS) : Option (AV × AS) := loopN (evC E call n 10 (E.at 10 [1, 1, 1, 1, 0, 1, 0, 0]) 0) [5, 36, 37, 38] m [(5, (.sl w5a w5l w5c)), (36, (.sl w36a w36l w36c)), (37, (.int .i64 w37)), (38, (.int .i64 w38))] S (kBlk 0 (kSeq E call n 10 (E.at 10 [1, 1, 1, 1, 1]) 0 (retK E (E.fn 10))))
def r10_j1_1_1_1_1 (call : CallA) (n : Nat)  (w5a : Option Pos) (w5l : Nat) (w5c : Cap) (S : AS) : Option (AV × AS) := evC E call n 10 (E.at 10 [1, 1, 1, 1, 1]) 0 [(5, (.sl w5a w5l w5c))] S (retK E (E.fn 10))
theorem a10_l1_1_1_1_0_1_0 (call : CallA) (n : Nat)  (m : Nat) (w5a : Option Pos) (w5l : Nat) (w5c : Cap) (w36a : Option Pos) (w36l : Nat) (w36c : Cap) (w37 : Int) (w38 : Int) (S : AS) : r10_l1_1_1_1_0_1_0 call n  (m + 1) w5a w5l w5c w36a w36l w36c w37 w38 S = b10_l1_1_1_1_0_1_0 call n (r10_l1_1_1_1_0_1_0 call n  m) (r10_j1_1_1_1_1 call n ) w5a w5l w5c w36a w36l w36c w37 w38 S := by kernel_rfl
theorem a10_j1_1_1_1_1 (call : CallA) (n : Nat)  (w5a : Option Pos) (w5l : Nat) (w5c : Cap) (S : AS) : r10_j1_1_1_1_1 call n  w5a w5l w5c S = b10_j1_1_1_1_1 call n  w5a w5l w5c S := by kernel_rfl
theorem a10_entry (call : CallA) (n : Nat) (x0 : List AV) (S : AS) : evC E call n 10 (E.at 10 []) 0 (enumT 0 [(.agg x0)]) S (retK E (E.fn 10)) = b10_entry call n (r10_l1_1_1_1_0_1_0 call n  n) x0 S := by kernel_rfl
def J10_j1_1_1_1_1 (call : CallA) (n : Nat)  (w5a : Option Pos) (w5l : Nat) (w5c : Cap) (S : AS) : Option (AV × AS) := b10_j1_1_1_1_1 call n  w5a w5l w5c S
theorem h10_j1_1_1_1_1 (call : CallA) (n : Nat)  : r10_j1_1_1_1_1 call n  = J10_j1_1_1_1_1 call n  := by
  funext w5a w5l w5c S
  rw [J10_j1_1_1_1_1, a10_j1_1_1_1_1]
def J10_l1_1_1_1_0_1_0 (call : CallA) (n : Nat)  (m : Nat) : Option Pos → Nat → Cap → Option Pos → Nat → Cap → Int → Int → AS → Option (AV × AS) := Nat.rec (motive := fun _ => Option Pos → Nat → Cap → Option Pos → Nat → Cap → Int → Int → AS → Option (AV × AS)) (fun _ _ _ _ _ _ _ _ _ => none) (fun mK ih w5a w5l w5c w36a w36l w36c w37 w38 S => b10_l1_1_1_1_0_1_0 call n ih (J10_j1_1_1_1_1 call n ) w5a w5l w5c w36a w36l w36c w37 w38 S) m
theorem J10_l1_1_1_1_0_1_0_succ (call : CallA) (n : Nat)  (m : Nat) (w5a : Option Pos) (w5l : Nat) (w5c : Cap) (w36a : Option Pos) (w36l : Nat) (w36c : Cap) (w37 : Int) (w38 : Int) (S : AS) : J10_l1_1_1_1_0_1_0 call n  (m + 1) w5a w5l w5c w36a w36l w36c w37 w38 S = b10_l1_1_1_1_0_1_0 call n (J10_l1_1_1_1_0_1_0 call n  m) (J10_j1_1_1_1_1 call n ) w5a w5l w5c w36a w36l w36c w37 w38 S := rfl
theorem h10_l1_1_1_1_0_1_0 (call : CallA) (n : Nat)  (m : Nat) : r10_l1_1_1_1_0_1_0 call n  m = J10_l1_1_1_1_0_1_0 call n  m := by
  induction m with
  | zero => rfl
  | succ m ih =>
    funext w5a w5l w5c w36a w36l w36c w37 w38 S
    rw [J10_l1_1_1_1_0_1_0_succ, a10_l1_1_1_1_0_1_0, h10_j1_1_1_1_1 call n , ih]
def J10 (call : CallA) (n : Nat) (x0 : List AV) (S : AS) : Option (AV × AS) := b10_entry call n (J10_l1_1_1_1_0_1_0 call n  n) x0 S
theorem run10 (o : Orc) (n : Nat) (args : List AV) (S : AS) (ho : o 10 args = none) : evF E o (n + 1) (.fn 10) args S = evC E (evF E o n) n 10 (E.at 10 []) 0 (enumT 0 args) S (retK E (E.fn 10)) := by
  rw [evF, ho]; kernel_rfl
theorem J10_eq (call : CallA) (n : Nat) (x0 : List AV) (S : AS) : evC E call n 10 (E.at 10 []) 0 (enumT 0 [(.agg x0)]) S (retK E (E.fn 10)) = J10 call n x0 S := by
  rw [J10, a10_entry, h10_l1_1_1_1_0_1_0 call n  n]
theorem F10 {o : Orc} (n : Nat) (x0 : List AV) (S : AS) (ho : ∀ args, o 10 args = none) : evF E o (n + 1) (.fn 10) [(.agg x0)] S = J10 (evF E o n) n x0 S := (run10 o n [(.agg x0)] S (ho _)).trans (J10_eq _ _ x0 S)
def b11_entry (call : CallA) (n : Nat)   (x0 : List AV) (S : AS) : Option (AV × AS) :=
 ifO (x0.length = 6) <|
 newA S (.cells x0) fun b1 S2 =>
 ldI .u64 S2 (.rw b1) 0 fun v3 =>
 cond (v3 == 0) (
 some (.tup [(.sl none 0 (.ex 0)), (.int .i64 81)], S2)) (
 ldI .u64 S2 (.rw b1) 1 fun v4 =>
 cond (v4 == 0) (
 some (.tup [(.sl none 0 (.ex 0)), (.int .i64 81)], S2)) (
 ldI .u64 S2 (.rw b1) 0 fun v5 =>
 cond (decide (v5 > 4611686018427387904)) (
 some (.tup [(.sl none 0 (.ex 0)), (.int .i64 81)], S2)) (
 ldI .u64 S2 (.rw b1) 1 fun v6 =>
 cond (decide (v6 > 4611686018427387904)) (
 some (.tup [(.sl none 0 (.ex 0)), (.int .i64 81)], S2)) (
 ldI .u64 S2 (.rw b1) 2 fun v7 =>
 cond (decide (v7 > 4611686018427387904)) (
 some (.tup [(.sl none 0 (.ex 0)), (.int .i64 81)], S2)) (
 ldI .u64 S2 (.rw b1) 3 fun v8 =>
 cond (decide (v8 > 4611686018427387904)) (
 some (.tup [(.sl none 0 (.ex 0)), (.int .i64 81)], S2)) (
 ldI .u64 S2 (.rw b1) 4 fun v9 =>
 cond (decide (v9 > 4611686018427387904)) (
 some (.tup [(.sl none 0 (.ex 0)), (.int .i64 81)], S2)) (
 ldI .u64 S2 (.rw b1) 5 fun v10 =>
 cond (decide (v10 > 4611686018427387904)) (
 some (.tup [(.sl none 0 (.ex 0)), (.int .i64 81)], S2)) (
 drawA S2 9 fun b11 S12 =>
 layA S12 (b11 + 0) (.cells [(.int .u8 74), (.int .u8 83), (.int .u8 85), (.int .u8 80)]) fun S13 =>
 convLL S13 (some (.rw (b11 + 0), 0)) 4 (.ex 4) fun v15a v15l v15c S14 =>
 ldI .u64 S14 (.rw b1) 0 fun v16 =>
 ldI .u64 S12 (.rw b1) 0 fun v17 =>
 cond (AV.beq (.int .u64 v17) (.int .u64 v16)) (
 callL call 42 [(.sl v15a v15l v15c), (.int .u64 v16), (.int .i64 8)] S14 fun v19a v19l v19c S18 =>
 ldI .u64 S18 (.rw b1) 1 fun v20 =>
 ldI .u64 S14 (.rw b1) 1 fun v21 =>
 cond (AV.beq (.int .u64 v21) (.int .u64 v20)) (
 ldI .u64 S12 (.rw b1) 1 fun v22 =>
 cond (AV.beq (.int .u64 v22) (.int .u64 v20)) (
 callL call 42 [(.sl v19a v19l v19c), (.int .u64 v20), (.int .i64 8)] S18 fun v24a v24l v24c S23 =>
 ldI .u64 S23 (.rw b1) 2 fun v25 =>
 callL call 42 [(.sl v24a v24l v24c), (.int .u64 v25), (.int .i64 8)] S23 fun v27a v27l v27c S26 =>
 ldI .u64 S26 (.rw b1) 3 fun v28 =>
 ldI .u64 S23 (.rw b1) 3 fun v29 =>
 cond (AV.beq (.int .u64 v29) (.int .u64 v28)) (
 callL call 42 [(.sl v27a v27l v27c), (.int .u64 v28), (.int .i64 8)] S26 fun v31a v31l v31c S30 =>
 ldI .u64 S30 (.rw b1) 4 fun v32 =>
 callL call 42 [(.sl v31a v31l v31c), (.int .u64 v32), (.int .i64 8)] S30 fun v34a v34l v34c S33 =>
 ldI .u64 S33 (.rw b1) 5 fun v35 =>
 ldI .u64 S30 (.rw b1) 5 fun v36 =>
 cond (AV.beq (.int .u64 v36) (.int .u64 v35)) (
 callL call 42 [(.sl v34a v34l v34c), (.int .u64 v35), (.int .i64 8)] S33 fun v38a v38l v38c S37 =>
 callL call 43 [(.sl v38a v38l v38c)] S37 fun v40a v40l v40c S39 =>
 some (.tup [(.sl v40a v40l v40c), (.int .i64 0)], S39)) none) none) none) none) none))))))))

theorem a11_entry (call : CallA) (n : Nat) (x0 : List AV) (S : AS) : evC E call n 11 (E.at 11 []) 0 (enumT 0 [(.agg x0)]) S (retK E (E.fn 11)) = b11_entry call n  x0 S := by kernel_rfl
def J11 (call : CallA) (n : Nat) (x0 : List AV) (S : AS) : Option (AV × AS) := b11_entry call n  x0 S
theorem run11 (o : Orc) (n : Nat) (args : List AV) (S : AS) (ho : o 11 args = none) : evF E o (n + 1) (.fn 11) args S = evC E (evF E o n) n 11 (E.at 11 []) 0 (enumT 0 args) S (retK E (E.fn 11)) := by
  rw [evF, ho]; kernel_rfl
theorem J11_eq (call : CallA) (n : Nat) (x0 : List AV) (S : AS) : evC E call n 11 (E.at 11 []) 0 (enumT 0 [(.agg x0)]) S (retK E (E.fn 11)) = J11 call n x0 S := by
  rw [J11, a11_entry]
theorem F11 {o : Orc} (n : Nat) (x0 : List AV) (S : AS) (ho : ∀ args, o 11 args = none) : evF E o (n + 1) (.fn 11) [(.agg x0)] S = J11 (evF E o n) n x0 S := (run11 o n [(.agg x0)] S (ho _)).trans (J11_eq _ _ x0 S)
def b12_l1_1_1_0_1_0 (call : CallA) (n : Nat)  (l1_1_1_0_1_0 : Option Pos → Nat → Cap → Int → Option Pos → Nat → Cap → Option Pos → Nat → Cap → Int → Int → AS → Option (AV × AS)) (j1_1_1_1 : Option Pos → Nat → Cap → AS → Option (AV × AS)) (w2a : Option Pos) (w2l : Nat) (w2c : Cap) (w3 : Int) (w4a : Option Pos) (w4l : Nat) (w4c : Cap) (w19a : Option Pos) (w19l : Nat) (w19c : Cap) (w20 : Int) (w21 : Int) (S : AS) : Option (AV × AS) :=
 cond (decide (w21 < w20)) (
 ixSl 2 w19a w19l w21 fun p3 =>
 S.ldn p3.1 p3.2 2 fun g4 =>
 newA S (.cells [(.int .i64 0), (.sl none 0 (.ex 0))]) fun b5 S6 =>
 ifO (g4.length = 2) <|
 S6.stn (.rw b5) 0 g4 fun S7 =>
 ldI .i64 S7 (.rw b5) 0 fun v8 =>
 cond (decide (v8 < 0)) (
 some (.tup [(.sl none 0 (.ex 0)), (.int .i64 82)], S7)) (
 ldI .i64 S7 (.rw b5) 0 fun v9 =>
 cond (decide (v9 ≥ 2147483648)) (
 some (.tup [(.sl none 0 (.ex 0)), (.int .i64 82)], S7)) (
 ldL S7 (.rw b5) 1 fun v10a v10l v10c =>
 cond (((v10l : Nat) : Int) != 384) (
 some (.tup [(.sl none 0 (.ex 0)), (.int .i64 82)], S7)) (
 ldI .i64 S7 (.rw b5) 0 fun v11 =>
 callL call 40 [(.sl w4a w4l w4c), (.int .u64 (IntKind.wrap .u64 v11)), (.int .i64 4)] S7 fun v13a v13l v13c S12 =>
 ldL S12 (.rw b5) 1 fun v14a v14l v14c =>
 ldL S7 (.rw b5) 1 fun v15a v15l v15c =>
 cond (AV.beq (.sl v15a v15l v15c) (.sl v14a v14l v14c)) (
 appendA 1 1 S12 v13a v13l v13c v14l (firstA S12 1 v14l (.sl v14a v14l v14c)) fun v16a v16l v16c S17 =>
 l1_1_1_0_1_0 w2a w2l w2c w3 v16a v16l v16c w19a w19l w19c w20 (IntKind.wrap .i64 (w21 + 1)) S17) none)))) (
 j1_1_1_1 w4a w4l w4c S)

def b12_j1_1_1_1 (call : CallA) (n : Nat)   (w4a : Option Pos) (w4l : Nat) (w4c : Cap) (S : AS) : Option (AV × AS) :=
 some (.tup [(.sl w4a w4l w4c), (.int .i64 0)], S)

def b12_entry (call : CallA) (n : Nat)  (l1_1_1_0_1_0 : Option Pos → Nat → Cap → Int → Option Pos → Nat → Cap → Option Pos → Nat → Cap → Int → Int → AS → Option (AV × AS)) (x0a : Option Pos) (x0l : Nat) (x0c : Cap) (S : AS) : Option (AV × AS) :=
 cond (((x0l : Nat) : Int) == 0) (
 some (.tup [(.sl none 0 (.ex 0)), (.int .i64 82)], S)) (
 cond (decide (((x0l : Nat) : Int) > 64)) (
 some (.tup [(.sl none 0 (.ex 0)), (.int .i64 82)], S)) (
 callL call 40 [(.sl none 0 (.ex 0)), (.int .u64 (IntKind.wrap .u64 ((x0l : Nat) : Int))), (.int .i64 4)] S fun v2a v2l v2c S1 =>
 l1_1_1_0_1_0 none 0 (.ex 0) 0 v2a v2l v2c x0a x0l x0c ((x0l : Nat) : Int) 0 S1))

def r12_l1_1_1_0_1_0 (call : CallA) (n : Nat)  (m : Nat) (w2a : Option Pos) (w2l : Nat) (w2c : Cap) (w3 : Int) (w4a : Option Pos) (w4l : Nat) (w4c : Cap) (w19a : Option Pos) (w19l : Nat) (w19c : Cap) (w20 : Int) (w21 : Int) (S : AS) : Option (AV × AS) := loopN (evC E call n 12 (E.at 12 [1, 1, 1, 0, 1, 0, 0]) 0) [2, 3, 4, 19, 20, 21] m [(2, (.sl w2a w2l w2c)), (3, (.int .i64 w3)), (4, (.sl w4a w4l w4c)), (19, (.sl w19a w19l w19c)), (20, (.int .i64 w20)), (21, (.int .i64 w21))] S (kBlk 0 (kSeq E call n 12 (E.at 12 [1, 1, 1, 1]) 0 (retK E (E.fn 12))))
def r12_j1_1_1_1 (call : CallA) (n : Nat)  (w4a : Option Pos) (w4l : Nat) (w4c : Cap) (S : AS) : Option (AV × AS) := evC E call n 12 (E.at 12 [1, 1, 1, 1]) 0 [(4, (.sl w4a w4l w4c))] S (retK E (E.fn 12))
theorem a12_l1_1_1_0_1_0 (call : CallA) (n : Nat)  (m : Nat) (w2a : Option Pos) (w2l : Nat) (w2c : Cap) (w3 : Int) (w4a : Option Pos) (w4l : Nat) (w4c : Cap) (w19a : Option Pos) (w19l : Nat) (w19c : Cap) (w20 : Int) (w21 : Int) (S : AS) : r12_l1_1_1_0_1_0 call n  (m + 1) w2a w2l w2c w3 w4a w4l w4c w19a w19l w19c w20 w21 S = b12_l1_1_1_0_1_0 call n (r12_l1_1_1_0_1_0 call n  m) (r12_j1_1_1_1 call n ) w2a w2l w2c w3 w4a w4l w4c w19a w19l w19c w20 w21 S := by kernel_rfl
theorem a12_j1_1_1_1 (call : CallA) (n : Nat)  (w4a : Option Pos) (w4l : Nat) (w4c : Cap) (S : AS) : r12_j1_1_1_1 call n  w4a w4l w4c S = b12_j1_1_1_1 call n  w4a w4l w4c S := by kernel_rfl
theorem a12_entry (call : CallA) (n : Nat) (x0a : Option Pos) (x0l : Nat) (x0c : Cap) (S : AS) : evC E call n 12 (E.at 12 []) 0 (enumT 0 [(.sl x0a x0l x0c)]) S (retK E (E.fn 12)) = b12_entry call n (r12_l1_1_1_0_1_0 call n  n) x0a x0l x0c S := by kernel_rfl
def J12_j1_1_1_1 (call : CallA) (n : Nat)  (w4a : Option Pos) (w4l : Nat) (w4c : Cap) (S : AS) : Option (AV × AS) := b12_j1_1_1_1 call n  w4a w4l w4c S
theorem h12_j1_1_1_1 (call : CallA) (n : Nat)  : r12_j1_1_1_1 call n  = J12_j1_1_1_1 call n  := by
  funext w4a w4l w4c S
  rw [J12_j1_1_1_1, a12_j1_1_1_1]
def J12_l1_1_1_0_1_0 (call : CallA) (n : Nat)  (m : Nat) : Option Pos → Nat → Cap → Int → Option Pos → Nat → Cap → Option Pos → Nat → Cap → Int → Int → AS → Option (AV × AS) := Nat.rec (motive := fun _ => Option Pos → Nat → Cap → Int → Option Pos → Nat → Cap → Option Pos → Nat → Cap → Int → Int → AS → Option (AV × AS)) (fun _ _ _ _ _ _ _ _ _ _ _ _ _ => none) (fun mK ih w2a w2l w2c w3 w4a w4l w4c w19a w19l w19c w20 w21 S => b12_l1_1_1_0_1_0 call n ih (J12_j1_1_1_1 call n ) w2a w2l w2c w3 w4a w4l w4c w19a w19l w19c w20 w21 S) m
theorem J12_l1_1_1_0_1_0_succ (call : CallA) (n : Nat)  (m : Nat) (w2a : Option Pos) (w2l : Nat) (w2c : Cap) (w3 : Int) (w4a : Option Pos) (w4l : Nat) (w4c : Cap) (w19a : Option Pos) (w19l : Nat) (w19c : Cap) (w20 : Int) (w21 : Int) (S : AS) : J12_l1_1_1_0_1_0 call n  (m + 1) w2a w2l w2c w3 w4a w4l w4c w19a w19l w19c w20 w21 S = b12_l1_1_1_0_1_0 call n (J12_l1_1_1_0_1_0 call n  m) (J12_j1_1_1_1 call n ) w2a w2l w2c w3 w4a w4l w4c w19a w19l w19c w20 w21 S := rfl
theorem h12_l1_1_1_0_1_0 (call : CallA) (n : Nat)  (m : Nat) : r12_l1_1_1_0_1_0 call n  m = J12_l1_1_1_0_1_0 call n  m := by
  induction m with
  | zero => rfl
  | succ m ih =>
    funext w2a w2l w2c w3 w4a w4l w4c w19a w19l w19c w20 w21 S
    rw [J12_l1_1_1_0_1_0_succ, a12_l1_1_1_0_1_0, h12_j1_1_1_1 call n , ih]
def J12 (call : CallA) (n : Nat) (x0a : Option Pos) (x0l : Nat) (x0c : Cap) (S : AS) : Option (AV × AS) := b12_entry call n (J12_l1_1_1_0_1_0 call n  n) x0a x0l x0c S
theorem run12 (o : Orc) (n : Nat) (args : List AV) (S : AS) (ho : o 12 args = none) : evF E o (n + 1) (.fn 12) args S = evC E (evF E o n) n 12 (E.at 12 []) 0 (enumT 0 args) S (retK E (E.fn 12)) := by
  rw [evF, ho]; kernel_rfl
theorem J12_eq (call : CallA) (n : Nat) (x0a : Option Pos) (x0l : Nat) (x0c : Cap) (S : AS) : evC E call n 12 (E.at 12 []) 0 (enumT 0 [(.sl x0a x0l x0c)]) S (retK E (E.fn 12)) = J12 call n x0a x0l x0c S := by
  rw [J12, a12_entry, h12_l1_1_1_0_1_0 call n  n]
theorem F12 {o : Orc} (n : Nat) (x0a : Option Pos) (x0l : Nat) (x0c : Cap) (S : AS) (ho : ∀ args, o 12 args = none) : evF E o (n + 1) (.fn 12) [(.sl x0a x0l x0c)] S = J12 (evF E o n) n x0a x0l x0c S := (run12 o n [(.sl x0a x0l x0c)] S (ho _)).trans (J12_eq _ _ x0a x0l x0c S)
def b13_l1_1_0_1_0 (call : CallA) (n : Nat)  (l1_1_0_1_0 : Option Pos → Nat → Cap → Option Pos → Nat → Cap → Int → AS → Option (AV × AS)) (w0a : Option Pos) (w0l : Nat) (w0c : Cap) (w3a : Option Pos) (w3l : Nat) (w3c : Cap) (w4 : Int) (S : AS) : Option (AV × AS) :=
 cond (decide (w4 < ((w0l : Nat) : Int))) (
 drawA S 17 fun b1 S2 =>
 ixSl 2 w0a w0l w4 fun p3 =>
 ldI .i64 S2 p3.1 p3.2 fun v4 =>
 ixSl 2 w0a w0l w4 fun p5 =>
 ldL S2 p5.1 (p5.2 + 1) fun v6a v6l v6c =>
 layA S2 (b1 + 6) (.cells []) fun S7 =>
 appendA 1 1 S7 (some (.rw (b1 + 6), 0)) 0 (.ex 0) v6l (firstA S7 1 v6l (.sl v6a v6l v6c)) fun v8a v8l v8c S9 =>
 ldI .i64 S9 p3.1 p3.2 fun v10 =>
 cond (AV.beq (.int .i64 v10) (.int .i64 v4)) (
 layA S9 (b1 + 14) (.cells [(.int .i64 v4), (.sl v8a v8l v8c)]) fun S11 =>
 appendA 2 32 S11 w3a w3l w3c 1 (firstA S11 2 1 (.sl (some (.rw (b1 + 14), 0)) 1 (.ex 1))) fun v12a v12l v12c S13 =>
 l1_1_0_1_0 w0a w0l w0c v12a v12l v12c (IntKind.wrap .i64 (w4 + 1)) S13) none) (
 some ((.sl w3a w3l w3c), S))

def b13_entry (call : CallA) (n : Nat)  (l1_1_0_1_0 : Option Pos → Nat → Cap → Option Pos → Nat → Cap → Int → AS → Option (AV × AS)) (x0a : Option Pos) (x0l : Nat) (x0c : Cap) (S : AS) : Option (AV × AS) :=
 l1_1_0_1_0 x0a x0l x0c none 0 (.ex 0) 0 S

def r13_l1_1_0_1_0 (call : CallA) (n : Nat)  (m : Nat) (w0a : Option Pos) (w0l : Nat) (w0c : Cap) (w3a : Option Pos) (w3l : Nat) (w3c : Cap) (w4 : Int) (S : AS) : Option (AV × AS) := loopN (evC E call n 13 (E.at 13 [1, 1, 0, 1, 0, 0]) 0) [0, 3, 4] m [(0, (.sl w0a w0l w0c)), (3, (.sl w3a w3l w3c)), (4, (.int .i64 w4))] S (kBlk 0 (kSeq E call n 13 (E.at 13 [1, 1, 1]) 0 (retK E (E.fn 13))))
theorem a13_l1_1_0_1_0 (call : CallA) (n : Nat)  (m : Nat) (w0a : Option Pos) (w0l : Nat) (w0c : Cap) (w3a : Option Pos) (w3l : Nat) (w3c : Cap) (w4 : Int) (S : AS) : r13_l1_1_0_1_0 call n  (m + 1) w0a w0l w0c w3a w3l w3c w4 S = b13_l1_1_0_1_0 call n (r13_l1_1_0_1_0 call n  m) w0a w0l w0c w3a w3l w3c w4 S := by kernel_rfl
theorem a13_entry (call : CallA) (n : Nat) (x0a : Option Pos) (x0l : Nat) (x0c : Cap) (S : AS) : evC E call n 13 (E.at 13 []) 0 (enumT 0 [(.sl x0a x0l x0c)]) S (retK E (E.fn 13)) = b13_entry call n (r13_l1_1_0_1_0 call n  n) x0a x0l x0c S := by kernel_rfl
def J13_l1_1_0_1_0 (call : CallA) (n : Nat)  (m : Nat) : Option Pos → Nat → Cap → Option Pos → Nat → Cap → Int → AS → Option (AV × AS) := Nat.rec (motive := fun _ => Option Pos → Nat → Cap → Option Pos → Nat → Cap → Int → AS → Option (AV × AS)) (fun _ _ _ _ _ _ _ _ => none) (fun mK ih w0a w0l w0c w3a w3l w3c w4 S => b13_l1_1_0_1_0 call n ih w0a w0l w0c w3a w3l w3c w4 S) m
theorem J13_l1_1_0_1_0_succ (call : CallA) (n : Nat)  (m : Nat) (w0a : Option Pos) (w0l : Nat) (w0c : Cap) (w3a : Option Pos) (w3l : Nat) (w3c : Cap) (w4 : Int) (S : AS) : J13_l1_1_0_1_0 call n  (m + 1) w0a w0l w0c w3a w3l w3c w4 S = b13_l1_1_0_1_0 call n (J13_l1_1_0_1_0 call n  m) w0a w0l w0c w3a w3l w3c w4 S := rfl
theorem h13_l1_1_0_1_0 (call : CallA) (n : Nat)  (m : Nat) : r13_l1_1_0_1_0 call n  m = J13_l1_1_0_1_0 call n  m := by
  induction m with
  | zero => rfl
  | succ m ih =>
    funext w0a w0l w0c w3a w3l w3c w4 S
    rw [J13_l1_1_0_1_0_succ, a13_l1_1_0_1_0, ih]
def J13 (call : CallA) (n : Nat) (x0a : Option Pos) (x0l : Nat) (x0c : Cap) (S : AS) : Option (AV × AS) := b13_entry call n (J13_l1_1_0_1_0 call n  n) x0a x0l x0c S
theorem run13 (o : Orc) (n : Nat) (args : List AV) (S : AS) (ho : o 13 args = none) : evF E o (n + 1) (.fn 13) args S = evC E (evF E o n) n 13 (E.at 13 []) 0 (enumT 0 args) S (retK E (E.fn 13)) := by
  rw [evF, ho]; kernel_rfl
theorem J13_eq (call : CallA) (n : Nat) (x0a : Option Pos) (x0l : Nat) (x0c : Cap) (S : AS) : evC E call n 13 (E.at 13 []) 0 (enumT 0 [(.sl x0a x0l x0c)]) S (retK E (E.fn 13)) = J13 call n x0a x0l x0c S := by
  rw [J13, a13_entry, h13_l1_1_0_1_0 call n  n]
theorem F13 {o : Orc} (n : Nat) (x0a : Option Pos) (x0l : Nat) (x0c : Cap) (S : AS) (ho : ∀ args, o 13 args = none) : evF E o (n + 1) (.fn 13) [(.sl x0a x0l x0c)] S = J13 (evF E o n) n x0a x0l x0c S := (run13 o n [(.sl x0a x0l x0c)] S (ho _)).trans (J13_eq _ _ x0a x0l x0c S)
end
end Go.Jn
