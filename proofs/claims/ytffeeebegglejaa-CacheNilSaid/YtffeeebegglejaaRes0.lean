/- Plain readings of the functions, and that they are what the evaluator does: by program. -/
import Derived.Test.YtffeeebegglejaaGrRes
import Derived.Test.YtffeeebegglejaaENV
import Derived.KernelRfl
set_option maxRecDepth 100000
set_option linter.unusedVariables false
namespace Go.Na
open Go.Gr
noncomputable section
def b3_entry (call : CallA) (n : Nat)   (S : AS) : Option (AV × AS) :=
callL call 6 [(.int .u8 1)] S fun v2a v2l v2c S1 =>
newA S1 (.cells [(.int .i64 0), (.sl v2a v2l v2c)]) fun b3 S4 =>
callT call 5 [(.ptr none), (.sl (some (.rw b3, 0)) 1 (.ex 1))] S4 fun v6 S5 =>
atI .u64 v6 0 fun v7 =>
atI .i64 v6 1 fun v8 =>
callT call 7 [.nilIface, (.int .i64 0), (.int .i64 8)] S5 fun v10 S9 =>
atP v10 0 fun v11 =>
atL v10 1 fun v12a v12l v12c =>
atI .i64 v10 2 fun v13 =>
callB call 8 [] S9 fun v15 S14 =>
cond v15 (
cond (v7 == 0) (
callI .i64 call 9 [(.int .i64 v8)] S14 fun v17 S16 =>
cond (v17 == 7) (
callI .i64 call 10 [(.ptr none)] S16 fun v19 S18 =>
callI .i64 call 9 [(.int .i64 v19)] S18 fun v21 S20 =>
cond (v21 == 7) (
callI .i64 call 11 [(.ptr none), (.int .u64 0)] S20 fun v23 S22 =>
callI .i64 call 9 [(.int .i64 v23)] S22 fun v25 S24 =>
cond (v25 == 7) (
callI .u64 call 12 [(.ptr none)] S24 fun v27 S26 =>
cond (v27 == 0) (
callI .u64 call 13 [(.ptr none)] S26 fun v29 S28 =>
cond (v29 == 0) (
callI .u64 call 14 [(.ptr none)] S28 fun v31 S30 =>
cond (v31 == 0) (
callI .i64 call 15 [(.ptr none)] S30 fun v33 S32 =>
cond (v33 == 0) (
callI .u64 call 16 [(.ptr none)] S32 fun v35 S34 =>
cond (v35 == 0) (
cond v11.isNone (
cond (((v12l : Nat) : Int) == 0) (
callI .i64 call 9 [(.int .i64 v13)] S34 fun v37 S36 =>
cond (v37 == 7) (
callI .i64 call 17 [.nilIface, (.int .i64 0), (.int .i64 8)] S36 fun v39 S38 =>
callI .i64 call 9 [(.int .i64 v39)] S38 fun v41 S40 =>
some ((.bool (v41 == 7)), S40)) (
some ((.bool false), S36))) (
some ((.bool false), S34))) (
some ((.bool false), S34))) (
some ((.bool false), S34))) (
some ((.bool false), S32))) (
some ((.bool false), S30))) (
some ((.bool false), S28))) (
some ((.bool false), S26))) (
some ((.bool false), S24))) (
some ((.bool false), S20))) (
some ((.bool false), S16))) (
some ((.bool false), S14))) (
some ((.bool false), S14))

theorem a3_entry (call : CallA) (n : Nat)  (S : AS) : evC E call n 3 (E.at 3 []) 0 (enumT 0 []) S (retK E (E.fn 3)) = b3_entry call n   S := by kernel_rfl
def J3 (call : CallA) (n : Nat)  (S : AS) : Option (AV × AS) := b3_entry call n   S
theorem run3 (o : Orc) (n : Nat) (args : List AV) (S : AS) (ho : o 3 args = none) : evF E o (n + 1) (.fn 3) args S = evC E (evF E o n) n 3 (E.at 3 []) 0 (enumT 0 args) S (retK E (E.fn 3)) := by
  rw [evF, ho]; kernel_rfl
theorem J3_eq (call : CallA) (n : Nat)  (S : AS) : evC E call n 3 (E.at 3 []) 0 (enumT 0 []) S (retK E (E.fn 3)) = J3 call n  S := by
  rw [J3, a3_entry]
theorem F3 {o : Orc} (n : Nat)  (S : AS) (ho : ∀ args, o 3 args = none) : evF E o (n + 1) (.fn 3) [] S = J3 (evF E o n) n  S := (run3 o n [] S (ho _)).trans (J3_eq _ _  S)
def b4_entry (call : CallA) (n : Nat)  (x0 : Int) (x1a : Option Pos) (x1l : Nat) (x1c : Cap) (x2 : Int) (S : AS) : Option (AV × AS) :=
cond (decide (((x1l : Nat) : Int) > 40000)) (
callB call 18 [] S fun v2 S1 =>
some ((.bool v2), S1)) (
callT call 19 [.nilIface, (.int .i64 x2)] S fun v4 S3 =>
atP v4 0 fun v5 =>
atI .i64 v4 1 fun v6 =>
callT call 20 [(.ptr none), (.int .i64 x0)] S3 fun v8 S7 =>
atL v8 0 fun v9a v9l v9c =>
atI .i64 v8 1 fun v10 =>
callT call 21 [(.ptr none), (.int .i64 x2)] S7 fun v12 S11 =>
atI .i64 v12 0 fun v13 =>
atI .i64 v12 1 fun v14 =>
callT call 22 [(.ptr none)] S11 fun v16 S15 =>
atI .u64 v16 0 fun v17 =>
atB v16 1 fun v18 =>
callT call 23 [(.ptr none)] S15 fun v20 S19 =>
atI .i64 v20 0 fun v21 =>
atI .i64 v20 1 fun v22 =>
callT call 24 [(.ptr none), (.int .u64 1)] S19 fun v24 S23 =>
cond v5.isNone (
callI .i64 call 25 [(.int .i64 v6)] S23 fun v26 S25 =>
cond (v26 == 2) (
cond (((v9l : Nat) : Int) == 0) (
callI .i64 call 25 [(.int .i64 v10)] S25 fun v28 S27 =>
cond (v28 == 7) (
cond (v13 == 0) (
callI .i64 call 25 [(.int .i64 v14)] S27 fun v30 S29 =>
cond (v30 == 7) (
cond (v17 == 0) (
cond (!v18) (
cond (v21 == 0) (
cond (v22 == 0) (
callI .i64 call 26 [(.ptr none), (.int .i64 x0), (.sl x1a x1l x1c), (.int .u64 1)] S29 fun v32 S31 =>
callI .i64 call 25 [(.int .i64 v32)] S31 fun v34 S33 =>
cond (v34 == 7) (
callI .i64 call 27 [(.ptr none), (.int .i64 x0)] S33 fun v36 S35 =>
callI .i64 call 25 [(.int .i64 v36)] S35 fun v38 S37 =>
cond (v38 == 7) (
callI .i64 call 28 [(.ptr none), (.int .i64 x0)] S37 fun v40 S39 =>
callI .i64 call 25 [(.int .i64 v40)] S39 fun v42 S41 =>
cond (v42 == 7) (
callI .i64 call 29 [(.ptr none)] S41 fun v44 S43 =>
callI .i64 call 25 [(.int .i64 v44)] S43 fun v46 S45 =>
cond (v46 == 7) (
callI .i64 call 30 [(.ptr none), (.int .i64 x0)] S45 fun v48 S47 =>
callI .i64 call 25 [(.int .i64 v48)] S47 fun v50 S49 =>
cond (v50 == 7) (
callL call 31 [(.ptr none)] S49 fun v52a v52l v52c S51 =>
cond (((v52l : Nat) : Int) == 0) (
callL call 32 [(.ptr none)] S51 fun v54a v54l v54c S53 =>
cond (((v54l : Nat) : Int) == 0) (
callB call 18 [] S53 fun v56 S55 =>
some ((.bool v56), S55)) (
some ((.bool false), S53))) (
some ((.bool false), S51))) (
some ((.bool false), S49))) (
some ((.bool false), S45))) (
some ((.bool false), S41))) (
some ((.bool false), S37))) (
some ((.bool false), S33))) (
some ((.bool false), S29))) (
some ((.bool false), S29))) (
some ((.bool false), S29))) (
some ((.bool false), S29))) (
some ((.bool false), S29))) (
some ((.bool false), S27))) (
some ((.bool false), S27))) (
some ((.bool false), S25))) (
some ((.bool false), S25))) (
some ((.bool false), S23)))

theorem a4_entry (call : CallA) (n : Nat) (x0 : Int) (x1a : Option Pos) (x1l : Nat) (x1c : Cap) (x2 : Int) (S : AS) : evC E call n 4 (E.at 4 []) 0 (enumT 0 [(.int .i64 x0), (.sl x1a x1l x1c), (.int .i64 x2)]) S (retK E (E.fn 4)) = b4_entry call n  x0 x1a x1l x1c x2 S := by kernel_rfl
def J4 (call : CallA) (n : Nat) (x0 : Int) (x1a : Option Pos) (x1l : Nat) (x1c : Cap) (x2 : Int) (S : AS) : Option (AV × AS) := b4_entry call n  x0 x1a x1l x1c x2 S
theorem run4 (o : Orc) (n : Nat) (args : List AV) (S : AS) (ho : o 4 args = none) : evF E o (n + 1) (.fn 4) args S = evC E (evF E o n) n 4 (E.at 4 []) 0 (enumT 0 args) S (retK E (E.fn 4)) := by
  rw [evF, ho]; kernel_rfl
theorem J4_eq (call : CallA) (n : Nat) (x0 : Int) (x1a : Option Pos) (x1l : Nat) (x1c : Cap) (x2 : Int) (S : AS) : evC E call n 4 (E.at 4 []) 0 (enumT 0 [(.int .i64 x0), (.sl x1a x1l x1c), (.int .i64 x2)]) S (retK E (E.fn 4)) = J4 call n x0 x1a x1l x1c x2 S := by
  rw [J4, a4_entry]
theorem F4 {o : Orc} (n : Nat) (x0 : Int) (x1a : Option Pos) (x1l : Nat) (x1c : Cap) (x2 : Int) (S : AS) (ho : ∀ args, o 4 args = none) : evF E o (n + 1) (.fn 4) [(.int .i64 x0), (.sl x1a x1l x1c), (.int .i64 x2)] S = J4 (evF E o n) n x0 x1a x1l x1c x2 S := (run4 o n [(.int .i64 x0), (.sl x1a x1l x1c), (.int .i64 x2)] S (ho _)).trans (J4_eq _ _ x0 x1a x1l x1c x2 S)
def b5_l1_1_1_1_1_1_1_1_0_1_0 (call : CallA) (n : Nat) (l1_1_1_1_1_1_1_1_0_1_0 : Option Pos → Int → Int → Option Pos → Nat → Cap → Int → Int → Int → Int → Int → AS → Option (AV × AS)) (j1_1_1_1_1_1_1_1_1 : Option Pos → Int → Int → AS → Option (AV × AS)) (w0 : Option Pos) (w4 : Int) (w5 : Int) (w6a : Option Pos) (w6l : Nat) (w6c : Cap) (w8 : Int) (w9 : Int) (w10 : Int) (w60 : Int) (w61 : Int) (S : AS) : Option (AV × AS) :=
cond (decide (w61 < w60)) (
slSl 1 w6a w6l w6c (some (IntKind.wrap .i64 (w61 * 336))) (some (if ((w6l : Nat) : Int) < (IntKind.wrap .i64 ((IntKind.wrap .i64 (w61 + 1)) * 336)) then ((w6l : Nat) : Int) else (IntKind.wrap .i64 ((IntKind.wrap .i64 (w61 + 1)) * 336)))) none fun v23a v23l v23c =>
gO w0 fun p24 =>
ldI .u64 S p24.1 (p24.2 + 3 + 1) fun v25 =>
gO w0 fun p26 =>
ldI .u64 S p26.1 (p26.2 + 11) fun v27 =>
callT call 37 [(.agg [(.int .u64 v25), (.int .u64 v27), (.int .u64 (IntKind.wrap .u64 (w9 + (IntKind.wrap .u64 w61)))), (.int .u64 w10), (.int .i64 w61), (.int .i64 w8), (.sl v23a v23l v23c)])] S fun v29 S28 =>
atL v29 0 fun v30a v30l v30c =>
atI .i64 v29 1 fun v31 =>
gO w0 fun p32 =>
ldV S28 p32.1 p32.2 fun v33 =>
callI .i64 call 38 [(.ptr w0), (.int .u64 (IntKind.wrap .u64 (w9 + (IntKind.wrap .u64 w61))))] S28 fun v35 S34 =>
ldV S34 p32.1 p32.2 fun v36 =>
cond (AV.beq v36 v33) (
nilV E v33 fun v37 =>
invV E call v33 "Write" [(.int .i64 v35), (.sl v30a v30l v30c)] S34 fun v39 S38 =>
gIk .i64 v39 fun v40 =>
cond (v40 != 0) (
some (.tup [(.int .u64 0), (.int .i64 v40)], S38)) (
l1_1_1_1_1_1_1_1_0_1_0 w0 w4 w5 w6a w6l w6c w8 w9 w10 w60 (IntKind.wrap .i64 (w61 + 1)) S38)) none) (
j1_1_1_1_1_1_1_1_1 w0 w8 w10 S)

def b5_j1_1_1_1_1_1_1_1_1 (call : CallA) (n : Nat)  (w0 : Option Pos) (w8 : Int) (w10 : Int) (S : AS) : Option (AV × AS) :=
drawA S 22 fun b41 S42 =>
gO w0 fun p43 =>
ldL S42 p43.1 (p43.2 + 9) fun v44a v44l v44c =>
gO w0 fun p45 =>
ldI .u64 S42 p45.1 (p45.2 + 3 + 1) fun v46 =>
gO w0 fun p47 =>
ldI .u64 S42 p47.1 (p47.2 + 11) fun v48 =>
layA S42 (b41 + 17) (.cells [(.int .i64 w8), (.int .u64 v46), (.int .u64 v48)]) fun S49 =>
appendA 3 24 S49 v44a v44l v44c 1 (firstA S49 3 1 (.sl (some (.rw (b41 + 17), 0)) 1 (.ex 1))) fun v50a v50l v50c S51 =>
gO w0 fun p52 =>
S51.stn p52.1 (p52.2 + 9) [(.sl v50a v50l v50c)] fun S53 =>
some (.tup [(.int .u64 w10), (.int .i64 0)], S53)

def b5_entry (call : CallA) (n : Nat) (l1_1_1_1_1_1_1_1_0_1_0 : Option Pos → Int → Int → Option Pos → Nat → Cap → Int → Int → Int → Int → Int → AS → Option (AV × AS)) (x0 : Option Pos) (x1a : Option Pos) (x1l : Nat) (x1c : Cap) (S : AS) : Option (AV × AS) :=
cond x0.isNone (
some (.tup [(.int .u64 0), (.int .i64 7)], S)) (
callT call 33 [(.sl x1a x1l x1c)] S fun v2 S1 =>
atL v2 0 fun v3a v3l v3c =>
atI .i64 v2 1 fun v4 =>
cond (v4 != 0) (
some (.tup [(.int .u64 0), (.int .i64 v4)], S1)) (
callI .i64 call 34 [(.int .i64 ((x1l : Nat) : Int))] S1 fun v6 S5 =>
callI .u64 call 35 [(.ptr x0)] S5 fun v8 S7 =>
callI .u64 call 12 [(.ptr x0)] S7 fun v10 S9 =>
callI .i64 call 15 [(.ptr x0)] S9 fun v12 S11 =>
cond (decide (v6 > v12)) (
some (.tup [(.int .u64 0), (.int .i64 5)], S11)) (
gO x0 fun p13 =>
ldI .u64 S11 p13.1 (p13.2 + 11) fun v14 =>
newA S11 (.cells [(.int .u64 (IntKind.wrap .u64 (v10 + 1))), (.int .u64 (IntKind.wrap .u64 (v14 + 1))), (.int .u64 (IntKind.wrap .u64 (v8 + (IntKind.wrap .u64 v6))))]) fun b15 S16 =>
callB call 36 [(.sl (some (.rw b15, 0)) 3 (.ex 3))] S16 fun v18 S17 =>
cond (!v18) (
some (.tup [(.int .u64 0), (.int .i64 5)], S17)) (
gO x0 fun p19 =>
ldI .u64 S17 p19.1 (p19.2 + 11) fun v20 =>
gO x0 fun p21 =>
S17.stn p21.1 (p21.2 + 11) [(.int .u64 (IntKind.wrap .u64 (v20 + 1)))] fun S22 =>
l1_1_1_1_1_1_1_1_0_1_0 x0 0 0 v3a v3l v3c v6 v8 (IntKind.wrap .u64 (v10 + 1)) v6 0 S22))))

def r5_l1_1_1_1_1_1_1_1_0_1_0 (call : CallA) (n : Nat)  (m : Nat) (w0 : Option Pos) (w4 : Int) (w5 : Int) (w6a : Option Pos) (w6l : Nat) (w6c : Cap) (w8 : Int) (w9 : Int) (w10 : Int) (w60 : Int) (w61 : Int) (S : AS) : Option (AV × AS) := loopN (evC E call n 5 (E.at 5 [1, 1, 1, 1, 1, 1, 1, 1, 0, 1, 0, 0]) 0) [0, 4, 5, 6, 8, 9, 10, 60, 61] m [(0, (.ptr w0)), (4, (.int .u64 w4)), (5, (.int .i64 w5)), (6, (.sl w6a w6l w6c)), (8, (.int .i64 w8)), (9, (.int .u64 w9)), (10, (.int .u64 w10)), (60, (.int .i64 w60)), (61, (.int .i64 w61))] S (kBlk 0 (kSeq E call n 5 (E.at 5 [1, 1, 1, 1, 1, 1, 1, 1, 1]) 0 (retK E (E.fn 5))))
def r5_j1_1_1_1_1_1_1_1_1 (call : CallA) (n : Nat)  (w0 : Option Pos) (w8 : Int) (w10 : Int) (S : AS) : Option (AV × AS) := evC E call n 5 (E.at 5 [1, 1, 1, 1, 1, 1, 1, 1, 1]) 0 [(0, (.ptr w0)), (8, (.int .i64 w8)), (10, (.int .u64 w10))] S (retK E (E.fn 5))
theorem a5_l1_1_1_1_1_1_1_1_0_1_0 (call : CallA) (n : Nat)  (m : Nat) (w0 : Option Pos) (w4 : Int) (w5 : Int) (w6a : Option Pos) (w6l : Nat) (w6c : Cap) (w8 : Int) (w9 : Int) (w10 : Int) (w60 : Int) (w61 : Int) (S : AS) : r5_l1_1_1_1_1_1_1_1_0_1_0 call n  (m + 1) w0 w4 w5 w6a w6l w6c w8 w9 w10 w60 w61 S = b5_l1_1_1_1_1_1_1_1_0_1_0 call n (r5_l1_1_1_1_1_1_1_1_0_1_0 call n  m) (r5_j1_1_1_1_1_1_1_1_1 call n ) w0 w4 w5 w6a w6l w6c w8 w9 w10 w60 w61 S := by kernel_rfl
theorem a5_j1_1_1_1_1_1_1_1_1 (call : CallA) (n : Nat)  (w0 : Option Pos) (w8 : Int) (w10 : Int) (S : AS) : r5_j1_1_1_1_1_1_1_1_1 call n  w0 w8 w10 S = b5_j1_1_1_1_1_1_1_1_1 call n  w0 w8 w10 S := by kernel_rfl
theorem a5_entry (call : CallA) (n : Nat) (x0 : Option Pos) (x1a : Option Pos) (x1l : Nat) (x1c : Cap) (S : AS) : evC E call n 5 (E.at 5 []) 0 (enumT 0 [(.ptr x0), (.sl x1a x1l x1c)]) S (retK E (E.fn 5)) = b5_entry call n (r5_l1_1_1_1_1_1_1_1_0_1_0 call n  n) x0 x1a x1l x1c S := by kernel_rfl
def J5_j1_1_1_1_1_1_1_1_1 (call : CallA) (n : Nat)  (w0 : Option Pos) (w8 : Int) (w10 : Int) (S : AS) : Option (AV × AS) := b5_j1_1_1_1_1_1_1_1_1 call n  w0 w8 w10 S
theorem h5_j1_1_1_1_1_1_1_1_1 (call : CallA) (n : Nat)  : r5_j1_1_1_1_1_1_1_1_1 call n  = J5_j1_1_1_1_1_1_1_1_1 call n  := by
  funext w0 w8 w10 S
  rw [J5_j1_1_1_1_1_1_1_1_1, a5_j1_1_1_1_1_1_1_1_1]
def J5_l1_1_1_1_1_1_1_1_0_1_0 (call : CallA) (n : Nat)  (m : Nat) : Option Pos → Int → Int → Option Pos → Nat → Cap → Int → Int → Int → Int → Int → AS → Option (AV × AS) := Nat.rec (motive := fun _ => Option Pos → Int → Int → Option Pos → Nat → Cap → Int → Int → Int → Int → Int → AS → Option (AV × AS)) (fun _ _ _ _ _ _ _ _ _ _ _ _ => none) (fun _ ih w0 w4 w5 w6a w6l w6c w8 w9 w10 w60 w61 S => b5_l1_1_1_1_1_1_1_1_0_1_0 call n ih (J5_j1_1_1_1_1_1_1_1_1 call n ) w0 w4 w5 w6a w6l w6c w8 w9 w10 w60 w61 S) m
theorem J5_l1_1_1_1_1_1_1_1_0_1_0_succ (call : CallA) (n : Nat)  (m : Nat) (w0 : Option Pos) (w4 : Int) (w5 : Int) (w6a : Option Pos) (w6l : Nat) (w6c : Cap) (w8 : Int) (w9 : Int) (w10 : Int) (w60 : Int) (w61 : Int) (S : AS) : J5_l1_1_1_1_1_1_1_1_0_1_0 call n  (m + 1) w0 w4 w5 w6a w6l w6c w8 w9 w10 w60 w61 S = b5_l1_1_1_1_1_1_1_1_0_1_0 call n (J5_l1_1_1_1_1_1_1_1_0_1_0 call n  m) (J5_j1_1_1_1_1_1_1_1_1 call n ) w0 w4 w5 w6a w6l w6c w8 w9 w10 w60 w61 S := rfl
theorem h5_l1_1_1_1_1_1_1_1_0_1_0 (call : CallA) (n : Nat)  (m : Nat) : r5_l1_1_1_1_1_1_1_1_0_1_0 call n  m = J5_l1_1_1_1_1_1_1_1_0_1_0 call n  m := by
  induction m with
  | zero => rfl
  | succ m ih =>
    funext w0 w4 w5 w6a w6l w6c w8 w9 w10 w60 w61 S
    rw [J5_l1_1_1_1_1_1_1_1_0_1_0_succ, a5_l1_1_1_1_1_1_1_1_0_1_0, h5_j1_1_1_1_1_1_1_1_1 call n , ih]
def J5 (call : CallA) (n : Nat) (x0 : Option Pos) (x1a : Option Pos) (x1l : Nat) (x1c : Cap) (S : AS) : Option (AV × AS) := b5_entry call n (J5_l1_1_1_1_1_1_1_1_0_1_0 call n  n) x0 x1a x1l x1c S
theorem run5 (o : Orc) (n : Nat) (args : List AV) (S : AS) (ho : o 5 args = none) : evF E o (n + 1) (.fn 5) args S = evC E (evF E o n) n 5 (E.at 5 []) 0 (enumT 0 args) S (retK E (E.fn 5)) := by
  rw [evF, ho]; kernel_rfl
theorem J5_eq (call : CallA) (n : Nat) (x0 : Option Pos) (x1a : Option Pos) (x1l : Nat) (x1c : Cap) (S : AS) : evC E call n 5 (E.at 5 []) 0 (enumT 0 [(.ptr x0), (.sl x1a x1l x1c)]) S (retK E (E.fn 5)) = J5 call n x0 x1a x1l x1c S := by
  rw [J5, a5_entry, h5_l1_1_1_1_1_1_1_1_0_1_0 call n  n]
theorem F5 {o : Orc} (n : Nat) (x0 : Option Pos) (x1a : Option Pos) (x1l : Nat) (x1c : Cap) (S : AS) (ho : ∀ args, o 5 args = none) : evF E o (n + 1) (.fn 5) [(.ptr x0), (.sl x1a x1l x1c)] S = J5 (evF E o n) n x0 x1a x1l x1c S := (run5 o n [(.ptr x0), (.sl x1a x1l x1c)] S (ho _)).trans (J5_eq _ _ x0 x1a x1l x1c S)
def b6_l1_1_0_1_0 (call : CallA) (n : Nat) (l1_1_0_1_0 : Int → Option Pos → Nat → Cap → Int → AS → Option (AV × AS)) (w0 : Int) (w3a : Option Pos) (w3l : Nat) (w3c : Cap) (w4 : Int) (S : AS) : Option (AV × AS) :=
cond (decide (w4 < ((w3l : Nat) : Int))) (
ixSl 1 w3a w3l w4 fun p5 =>
S.stn p5.1 p5.2 [(.int .u8 w0)] fun S6 =>
l1_1_0_1_0 w0 w3a w3l w3c (IntKind.wrap .i64 (w4 + 1)) S6) (
some ((.sl w3a w3l w3c), S))

def b6_entry (call : CallA) (n : Nat) (l1_1_0_1_0 : Int → Option Pos → Nat → Cap → Int → AS → Option (AV × AS)) (x0 : Int) (S : AS) : Option (AV × AS) :=
mkSl 1 384 384 fun l3 c4 =>
newA S (.cells (zeros c4 [(.int .u8 0)])) fun b1 S2 =>
l1_1_0_1_0 x0 (some (.rw b1, 0)) l3 (.ex c4) 0 S2

def r6_l1_1_0_1_0 (call : CallA) (n : Nat)  (m : Nat) (w0 : Int) (w3a : Option Pos) (w3l : Nat) (w3c : Cap) (w4 : Int) (S : AS) : Option (AV × AS) := loopN (evC E call n 6 (E.at 6 [1, 1, 0, 1, 0, 0]) 0) [0, 3, 4] m [(0, (.int .u8 w0)), (3, (.sl w3a w3l w3c)), (4, (.int .i64 w4))] S (kBlk 0 (kSeq E call n 6 (E.at 6 [1, 1, 1]) 0 (retK E (E.fn 6))))
theorem a6_l1_1_0_1_0 (call : CallA) (n : Nat)  (m : Nat) (w0 : Int) (w3a : Option Pos) (w3l : Nat) (w3c : Cap) (w4 : Int) (S : AS) : r6_l1_1_0_1_0 call n  (m + 1) w0 w3a w3l w3c w4 S = b6_l1_1_0_1_0 call n (r6_l1_1_0_1_0 call n  m) w0 w3a w3l w3c w4 S := by kernel_rfl
theorem a6_entry (call : CallA) (n : Nat) (x0 : Int) (S : AS) : evC E call n 6 (E.at 6 []) 0 (enumT 0 [(.int .u8 x0)]) S (retK E (E.fn 6)) = b6_entry call n (r6_l1_1_0_1_0 call n  n) x0 S := by kernel_rfl
def J6_l1_1_0_1_0 (call : CallA) (n : Nat)  (m : Nat) : Int → Option Pos → Nat → Cap → Int → AS → Option (AV × AS) := Nat.rec (motive := fun _ => Int → Option Pos → Nat → Cap → Int → AS → Option (AV × AS)) (fun _ _ _ _ _ _ => none) (fun _ ih w0 w3a w3l w3c w4 S => b6_l1_1_0_1_0 call n ih w0 w3a w3l w3c w4 S) m
theorem J6_l1_1_0_1_0_succ (call : CallA) (n : Nat)  (m : Nat) (w0 : Int) (w3a : Option Pos) (w3l : Nat) (w3c : Cap) (w4 : Int) (S : AS) : J6_l1_1_0_1_0 call n  (m + 1) w0 w3a w3l w3c w4 S = b6_l1_1_0_1_0 call n (J6_l1_1_0_1_0 call n  m) w0 w3a w3l w3c w4 S := rfl
theorem h6_l1_1_0_1_0 (call : CallA) (n : Nat)  (m : Nat) : r6_l1_1_0_1_0 call n  m = J6_l1_1_0_1_0 call n  m := by
  induction m with
  | zero => rfl
  | succ m ih =>
    funext w0 w3a w3l w3c w4 S
    rw [J6_l1_1_0_1_0_succ, a6_l1_1_0_1_0, ih]
def J6 (call : CallA) (n : Nat) (x0 : Int) (S : AS) : Option (AV × AS) := b6_entry call n (J6_l1_1_0_1_0 call n  n) x0 S
theorem run6 (o : Orc) (n : Nat) (args : List AV) (S : AS) (ho : o 6 args = none) : evF E o (n + 1) (.fn 6) args S = evC E (evF E o n) n 6 (E.at 6 []) 0 (enumT 0 args) S (retK E (E.fn 6)) := by
  rw [evF, ho]; kernel_rfl
theorem J6_eq (call : CallA) (n : Nat) (x0 : Int) (S : AS) : evC E call n 6 (E.at 6 []) 0 (enumT 0 [(.int .u8 x0)]) S (retK E (E.fn 6)) = J6 call n x0 S := by
  rw [J6, a6_entry, h6_l1_1_0_1_0 call n  n]
theorem F6 {o : Orc} (n : Nat) (x0 : Int) (S : AS) (ho : ∀ args, o 6 args = none) : evF E o (n + 1) (.fn 6) [(.int .u8 x0)] S = J6 (evF E o n) n x0 S := (run6 o n [(.int .u8 x0)] S (ho _)).trans (J6_eq _ _ x0 S)
def b7_l1_1_1_1_1_1_0_1_0 (call : CallA) (n : Nat) (j1_1_1_1_1_1_1 : Option Pos → Option Pos → Nat → Cap → AS → Option (AV × AS)) (l1_1_1_1_1_1_0_1_0 : Option Pos → Option Pos → Nat → Cap → Int → Option Pos → Option Pos → Nat → Cap → Option Pos → Int → AS → Option (AV × AS)) (w6 : Option Pos) (w7a : Option Pos) (w7l : Nat) (w7c : Cap) (w8 : Int) (w10 : Option Pos) (w12a : Option Pos) (w12l : Nat) (w12c : Cap) (w13 : Option Pos) (w14 : Int) (S : AS) : Option (AV × AS) :=
drawA S 19 fun b18 S19 =>
callI .u64 call 12 [(.ptr w10)] S19 fun v21 S20 =>
gO w13 fun p22 =>
S20.ldn p22.1 p22.2 2 fun g23 =>
gO w13 fun p24 =>
S19.ldn p24.1 p24.2 2 fun g25 =>
cond (AV.beq (.agg g25) (.agg g23)) (
callI .i64 call 15 [(.ptr w10)] S20 fun v27 S26 =>
gO w13 fun p28 =>
S26.ldn p28.1 p28.2 2 fun g29 =>
cond (AV.beq (.agg g29) (.agg g23)) (
callT call 41 [(.ptr w10), (.int .u64 w14), (.int .u64 (IntKind.wrap .u64 (v21 + 1))), (.agg g23), (.int .i64 v27)] S26 fun v31 S30 =>
atL v31 0 fun v32a v32l v32c =>
atG 3 v31 1 fun g33 =>
atB v31 2 fun v34 =>
atI .i64 v31 3 fun v35 =>
layA S30 (b18 + 14) (.cells [(.int .i64 0), (.int .u64 0), (.int .u64 0)]) fun S36 =>
ifO (g33.length = 3) <|
S36.stn (.rw (b18 + 14)) 0 g33 fun S37 =>
cond (v35 != 0) (
some (.tup [(.ptr none), (.sl none 0 (.ex 0)), (.int .i64 v35)], S37)) (
cond (!v34) (
j1_1_1_1_1_1_1 w10 w12a w12l w12c S37) (
drawA S37 16 fun b38 S39 =>
gO w10 fun p40 =>
ldL S39 p40.1 (p40.2 + 9) fun v41a v41l v41c =>
S39.ldn (.rw (b18 + 14)) 0 3 fun g42 =>
ifO (g42.length = 3) <|
ifO (0 + g42.length ≤ ([(.int .i64 0), (.int .u64 0), (.int .u64 0)] : List AV).length) <|
layA S39 (b38 + 6) (.cells (splice [(.int .i64 0), (.int .u64 0), (.int .u64 0)] 0 g42)) fun S44 =>
appendA 3 24 S44 v41a v41l v41c 1 (firstA S44 3 1 (.sl (some (.rw (b38 + 6), 0)) 1 (.ex 1))) fun v45a v45l v45c S46 =>
layA S46 (b38 + 10) (.cells [(.sl v32a v32l v32c)]) fun S47 =>
appendA 1 24 S47 w12a w12l w12c 1 (firstA S47 1 1 (.sl (some (.rw (b38 + 10), 0)) 1 (.ex 1))) fun v48a v48l v48c S49 =>
gO w10 fun p50 =>
S49.stn p50.1 (p50.2 + 9) [(.sl v45a v45l v45c)] fun S51 =>
S51.ldn (.rw (b18 + 14)) 1 2 fun g52 =>
gO w13 fun p54 =>
ifO (g52.length = 2) <|
S51.stn p54.1 p54.2 g52 fun S53 =>
ldI .i64 S53 (.rw (b18 + 14)) 0 fun v55 =>
l1_1_1_1_1_1_0_1_0 w6 w7a w7l w7c w8 w10 v48a v48l v48c w13 (IntKind.wrap .u64 (w14 + (IntKind.wrap .u64 v55))) S53))) none) none

def b7_j1_1_1_1_1_1_1 (call : CallA) (n : Nat)  (w10 : Option Pos) (w12a : Option Pos) (w12l : Nat) (w12c : Cap) (S : AS) : Option (AV × AS) :=
gO w10 fun p56 =>
S.ldn p56.1 (p56.2 + 3) 6 fun g57 =>
newA S (.cells [(.int .u64 0), (.int .u64 0), (.int .u64 0), (.int .u64 0), (.int .u64 0), (.int .u64 0)]) fun b58 S59 =>
ifO (g57.length = 6) <|
S59.stn (.rw b58) 0 g57 fun S60 =>
ldI .u64 S60 (.rw b58) 1 fun v61 =>
S60.stn (.rw b58) 1 [(.int .u64 (IntKind.wrap .u64 (v61 + 1)))] fun S62 =>
S62.ldn (.rw b58) 0 6 fun g63 =>
callI .i64 call 42 [(.ptr w10), (.agg g63)] S62 fun v65 S64 =>
cond (v65 != 0) (
some (.tup [(.ptr none), (.sl none 0 (.ex 0)), (.int .i64 v65)], S64)) (
callI .u64 call 12 [(.ptr w10)] S64 fun v67 S66 =>
gO w10 fun p68 =>
S66.stn p68.1 (p68.2 + 10) [(.int .u64 v67)] fun S69 =>
some (.tup [(.ptr w10), (.sl w12a w12l w12c), (.int .i64 0)], S69))

def b7_entry (call : CallA) (n : Nat) (l1_1_1_1_1_1_0_1_0 : Option Pos → Option Pos → Nat → Cap → Int → Option Pos → Option Pos → Nat → Cap → Option Pos → Int → AS → Option (AV × AS)) (x0 : AV) (x1 : Int) (x2 : Int) (S : AS) : Option (AV × AS) :=
callI .i64 call 39 [x0, (.int .i64 x1), (.int .i64 x2)] S fun v2 S1 =>
cond (v2 != 0) (
some (.tup [(.ptr none), (.sl none 0 (.ex 0)), (.int .i64 v2)], S1)) (
cellsOf ty65 x0 fun g3 =>
ifO (0 + g3.length ≤ ([.nilIface, (.int .i64 0), (.int .i64 0), (.int .u64 0), (.int .u64 0), (.int .u64 0), (.int .u64 0), (.int .u64 0), (.int .u64 0), (.sl none 0 (.ex 0)), (.int .u64 0), (.int .u64 0)] : List AV).length) <|
ifO (1 + ([(.int .i64 x1)] : List AV).length ≤ (splice [.nilIface, (.int .i64 0), (.int .i64 0), (.int .u64 0), (.int .u64 0), (.int .u64 0), (.int .u64 0), (.int .u64 0), (.int .u64 0), (.sl none 0 (.ex 0)), (.int .u64 0), (.int .u64 0)] 0 g3).length) <|
ifO (2 + ([(.int .i64 x2)] : List AV).length ≤ (splice (splice [.nilIface, (.int .i64 0), (.int .i64 0), (.int .u64 0), (.int .u64 0), (.int .u64 0), (.int .u64 0), (.int .u64 0), (.int .u64 0), (.sl none 0 (.ex 0)), (.int .u64 0), (.int .u64 0)] 0 g3) 1 [(.int .i64 x1)]).length) <|
ifO ((splice (splice (splice [.nilIface, (.int .i64 0), (.int .i64 0), (.int .u64 0), (.int .u64 0), (.int .u64 0), (.int .u64 0), (.int .u64 0), (.int .u64 0), (.sl none 0 (.ex 0)), (.int .u64 0), (.int .u64 0)] 0 g3) 1 [(.int .i64 x1)]) 2 [(.int .i64 x2)]).length = 12) <|
newA S1 (.cells (splice (splice (splice [.nilIface, (.int .i64 0), (.int .i64 0), (.int .u64 0), (.int .u64 0), (.int .u64 0), (.int .u64 0), (.int .u64 0), (.int .u64 0), (.sl none 0 (.ex 0)), (.int .u64 0), (.int .u64 0)] 0 g3) 1 [(.int .i64 x1)]) 2 [(.int .i64 x2)])) fun b7 S8 =>
callI .i64 call 40 [(.ptr (some ((.rw b7), 0)))] S8 fun v10 S9 =>
cond (v10 != 0) (
some (.tup [(.ptr none), (.sl none 0 (.ex 0)), (.int .i64 v10)], S9)) (
drawA S9 13 fun b11 S12 =>
ldI .u64 S12 (.rw b7) 7 fun v13 =>
ldI .u64 S12 (.rw b7) 8 fun v14 =>
layA S12 (b11 + 11) (.cells [(.int .u64 0), (.int .u64 0)]) fun S15 =>
S15.stn (.rw (b11 + 11)) 0 [(.int .u64 v13), (.int .u64 v14)] fun S16 =>
ldI .u64 S16 (.rw b7) 5 fun v17 =>
l1_1_1_1_1_1_0_1_0 none none 0 (.ex 0) 0 (some ((.rw b7), 0)) none 0 (.ex 0) (some ((.rw (b11 + 11)), 0)) v17 S16))

def r7_l1_1_1_1_1_1_0_1_0 (call : CallA) (n : Nat)  (m : Nat) (w6 : Option Pos) (w7a : Option Pos) (w7l : Nat) (w7c : Cap) (w8 : Int) (w10 : Option Pos) (w12a : Option Pos) (w12l : Nat) (w12c : Cap) (w13 : Option Pos) (w14 : Int) (S : AS) : Option (AV × AS) := loopN (evC E call n 7 (E.at 7 [1, 1, 1, 1, 1, 1, 0, 1, 0, 0]) 0) [6, 7, 8, 10, 12, 13, 14] m [(6, (.ptr w6)), (7, (.sl w7a w7l w7c)), (8, (.int .i64 w8)), (10, (.ptr w10)), (12, (.sl w12a w12l w12c)), (13, (.ptr w13)), (14, (.int .u64 w14))] S (kBlk 0 (kSeq E call n 7 (E.at 7 [1, 1, 1, 1, 1, 1, 1]) 0 (retK E (E.fn 7))))
def r7_j1_1_1_1_1_1_1 (call : CallA) (n : Nat)  (w10 : Option Pos) (w12a : Option Pos) (w12l : Nat) (w12c : Cap) (S : AS) : Option (AV × AS) := evC E call n 7 (E.at 7 [1, 1, 1, 1, 1, 1, 1]) 0 [(10, (.ptr w10)), (12, (.sl w12a w12l w12c))] S (retK E (E.fn 7))
theorem a7_l1_1_1_1_1_1_0_1_0 (call : CallA) (n : Nat)  (m : Nat) (w6 : Option Pos) (w7a : Option Pos) (w7l : Nat) (w7c : Cap) (w8 : Int) (w10 : Option Pos) (w12a : Option Pos) (w12l : Nat) (w12c : Cap) (w13 : Option Pos) (w14 : Int) (S : AS) : r7_l1_1_1_1_1_1_0_1_0 call n  (m + 1) w6 w7a w7l w7c w8 w10 w12a w12l w12c w13 w14 S = b7_l1_1_1_1_1_1_0_1_0 call n (r7_j1_1_1_1_1_1_1 call n ) (r7_l1_1_1_1_1_1_0_1_0 call n  m) w6 w7a w7l w7c w8 w10 w12a w12l w12c w13 w14 S := by kernel_rfl
theorem a7_j1_1_1_1_1_1_1 (call : CallA) (n : Nat)  (w10 : Option Pos) (w12a : Option Pos) (w12l : Nat) (w12c : Cap) (S : AS) : r7_j1_1_1_1_1_1_1 call n  w10 w12a w12l w12c S = b7_j1_1_1_1_1_1_1 call n  w10 w12a w12l w12c S := by kernel_rfl
theorem a7_entry (call : CallA) (n : Nat) (x0 : AV) (x1 : Int) (x2 : Int) (S : AS) : evC E call n 7 (E.at 7 []) 0 (enumT 0 [x0, (.int .i64 x1), (.int .i64 x2)]) S (retK E (E.fn 7)) = b7_entry call n (r7_l1_1_1_1_1_1_0_1_0 call n  n) x0 x1 x2 S := by kernel_rfl
def J7_j1_1_1_1_1_1_1 (call : CallA) (n : Nat)  (w10 : Option Pos) (w12a : Option Pos) (w12l : Nat) (w12c : Cap) (S : AS) : Option (AV × AS) := b7_j1_1_1_1_1_1_1 call n  w10 w12a w12l w12c S
theorem h7_j1_1_1_1_1_1_1 (call : CallA) (n : Nat)  : r7_j1_1_1_1_1_1_1 call n  = J7_j1_1_1_1_1_1_1 call n  := by
  funext w10 w12a w12l w12c S
  rw [J7_j1_1_1_1_1_1_1, a7_j1_1_1_1_1_1_1]
def J7_l1_1_1_1_1_1_0_1_0 (call : CallA) (n : Nat)  (m : Nat) : Option Pos → Option Pos → Nat → Cap → Int → Option Pos → Option Pos → Nat → Cap → Option Pos → Int → AS → Option (AV × AS) := Nat.rec (motive := fun _ => Option Pos → Option Pos → Nat → Cap → Int → Option Pos → Option Pos → Nat → Cap → Option Pos → Int → AS → Option (AV × AS)) (fun _ _ _ _ _ _ _ _ _ _ _ _ => none) (fun _ ih w6 w7a w7l w7c w8 w10 w12a w12l w12c w13 w14 S => b7_l1_1_1_1_1_1_0_1_0 call n (J7_j1_1_1_1_1_1_1 call n ) ih w6 w7a w7l w7c w8 w10 w12a w12l w12c w13 w14 S) m
theorem J7_l1_1_1_1_1_1_0_1_0_succ (call : CallA) (n : Nat)  (m : Nat) (w6 : Option Pos) (w7a : Option Pos) (w7l : Nat) (w7c : Cap) (w8 : Int) (w10 : Option Pos) (w12a : Option Pos) (w12l : Nat) (w12c : Cap) (w13 : Option Pos) (w14 : Int) (S : AS) : J7_l1_1_1_1_1_1_0_1_0 call n  (m + 1) w6 w7a w7l w7c w8 w10 w12a w12l w12c w13 w14 S = b7_l1_1_1_1_1_1_0_1_0 call n (J7_j1_1_1_1_1_1_1 call n ) (J7_l1_1_1_1_1_1_0_1_0 call n  m) w6 w7a w7l w7c w8 w10 w12a w12l w12c w13 w14 S := rfl
theorem h7_l1_1_1_1_1_1_0_1_0 (call : CallA) (n : Nat)  (m : Nat) : r7_l1_1_1_1_1_1_0_1_0 call n  m = J7_l1_1_1_1_1_1_0_1_0 call n  m := by
  induction m with
  | zero => rfl
  | succ m ih =>
    funext w6 w7a w7l w7c w8 w10 w12a w12l w12c w13 w14 S
    rw [J7_l1_1_1_1_1_1_0_1_0_succ, a7_l1_1_1_1_1_1_0_1_0, h7_j1_1_1_1_1_1_1 call n , ih]
def J7 (call : CallA) (n : Nat) (x0 : AV) (x1 : Int) (x2 : Int) (S : AS) : Option (AV × AS) := b7_entry call n (J7_l1_1_1_1_1_1_0_1_0 call n  n) x0 x1 x2 S
theorem run7 (o : Orc) (n : Nat) (args : List AV) (S : AS) (ho : o 7 args = none) : evF E o (n + 1) (.fn 7) args S = evC E (evF E o n) n 7 (E.at 7 []) 0 (enumT 0 args) S (retK E (E.fn 7)) := by
  rw [evF, ho]; kernel_rfl
theorem J7_eq (call : CallA) (n : Nat) (x0 : AV) (x1 : Int) (x2 : Int) (S : AS) : evC E call n 7 (E.at 7 []) 0 (enumT 0 [x0, (.int .i64 x1), (.int .i64 x2)]) S (retK E (E.fn 7)) = J7 call n x0 x1 x2 S := by
  rw [J7, a7_entry, h7_l1_1_1_1_1_1_0_1_0 call n  n]
theorem F7 {o : Orc} (n : Nat) (x0 : AV) (x1 : Int) (x2 : Int) (S : AS) (ho : ∀ args, o 7 args = none) : evF E o (n + 1) (.fn 7) [x0, (.int .i64 x1), (.int .i64 x2)] S = J7 (evF E o n) n x0 x1 x2 S := (run7 o n [x0, (.int .i64 x1), (.int .i64 x2)] S (ho _)).trans (J7_eq _ _ x0 x1 x2 S)
def b8_entry (call : CallA) (n : Nat)   (S : AS) : Option (AV × AS) :=
callP call 43 [(.int .i64 9)] S fun v2 S1 =>
callI .i64 call 17 [(.iface 83 (.ptr v2)), (.int .i64 1), (.int .i64 8)] S1 fun v4 S3 =>
callI .i64 call 9 [(.int .i64 v4)] S3 fun v6 S5 =>
cond (v6 != 0) (
some ((.bool false), S5)) (
callT call 7 [(.iface 83 (.ptr v2)), (.int .i64 1), (.int .i64 8)] S5 fun v8 S7 =>
atP v8 0 fun v9 =>
atL v8 1 fun v10a v10l v10c =>
atI .i64 v8 2 fun v11 =>
callI .i64 call 9 [(.int .i64 v11)] S7 fun v13 S12 =>
cond (v13 != 0) (
some ((.bool false), S12)) (
cond v9.isNone (
some ((.bool false), S12)) (
cond (((v10l : Nat) : Int) != 0) (
some ((.bool false), S12)) (
callI .i64 call 15 [(.ptr v9)] S12 fun v15 S14 =>
cond (v15 != 6) (
some ((.bool false), S14)) (
callL call 6 [(.int .u8 97)] S14 fun v17a v17l v17c S16 =>
newA S16 (.cells [(.int .i64 7), (.sl v17a v17l v17c)]) fun b18 S19 =>
callT call 5 [(.ptr v9), (.sl (some (.rw b18, 0)) 1 (.ex 1))] S19 fun v21 S20 =>
atI .u64 v21 0 fun v22 =>
atI .i64 v21 1 fun v23 =>
callL call 6 [(.int .u8 98)] S20 fun v25a v25l v25c S24 =>
newA S24 (.cells [(.int .i64 8), (.sl v25a v25l v25c)]) fun b26 S27 =>
callT call 5 [(.ptr v9), (.sl (some (.rw b26, 0)) 1 (.ex 1))] S27 fun v29 S28 =>
atI .u64 v29 0 fun v30 =>
atI .i64 v29 1 fun v31 =>
newA S28 (.cells [(.int .i64 2), (.int .i64 3)]) fun b32 S33 =>
callT call 44 [(.ptr v2), (.sl (some (.rw b32, 0)) 2 (.ex 2))] S33 fun v35 S34 =>
callT call 7 [(.iface 83 (.ptr v2)), (.int .i64 1), (.int .i64 8)] S34 fun v37 S36 =>
atP v37 0 fun v38 =>
atL v37 1 fun v39a v39l v39c =>
atI .i64 v37 2 fun v40 =>
callI .i64 call 9 [(.int .i64 v40)] S36 fun v42 S41 =>
cond (v42 != 0) (
some ((.bool false), S41)) (
cond v38.isNone (
some ((.bool false), S41)) (
cond (((v39l : Nat) : Int) != 0) (
some ((.bool false), S41)) (
callL call 6 [(.int .u8 99)] S41 fun v44a v44l v44c S43 =>
newA S43 (.cells [(.int .i64 9), (.sl v44a v44l v44c)]) fun b45 S46 =>
callT call 5 [(.ptr v38), (.sl (some (.rw b45, 0)) 1 (.ex 1))] S46 fun v48 S47 =>
atI .u64 v48 0 fun v49 =>
atI .i64 v48 1 fun v50 =>
callI .i64 call 10 [(.ptr v38)] S47 fun v52 S51 =>
callT call 44 [(.ptr v2), (.sl none 0 (.ex 0))] S51 fun v54 S53 =>
callT call 7 [(.iface 83 (.ptr v2)), (.int .i64 1), (.int .i64 8)] S53 fun v56 S55 =>
atP v56 0 fun v57 =>
atL v56 1 fun v58a v58l v58c =>
atI .i64 v56 2 fun v59 =>
cond (v22 == 1) (
callI .i64 call 9 [(.int .i64 v23)] S55 fun v61 S60 =>
cond (v61 == 0) (
cond (v30 == 2) (
callI .i64 call 9 [(.int .i64 v31)] S60 fun v63 S62 =>
cond (v63 == 0) (
cond (v49 == 1) (
callI .i64 call 9 [(.int .i64 v50)] S62 fun v65 S64 =>
cond (v65 == 0) (
callI .i64 call 9 [(.int .i64 v52)] S64 fun v67 S66 =>
cond (v67 == 0) (
callI .i64 call 9 [(.int .i64 v59)] S66 fun v69 S68 =>
cond (v69 == 0) (
cond (((v58l : Nat) : Int) == 1) (
ixSl 1 v58a v58l 0 fun p70 =>
ldL S68 p70.1 p70.2 fun v71a v71l v71c =>
cond (((v71l : Nat) : Int) == 1) (
ixSl 1 v58a v58l 0 fun p72 =>
ldL S68 p72.1 p72.2 fun v73a v73l v73c =>
ixSl 2 v73a v73l 0 fun p74 =>
ldI .i64 S68 p74.1 p74.2 fun v75 =>
cond (v75 == 9) (
ixSl 1 v58a v58l 0 fun p76 =>
ldL S68 p76.1 p76.2 fun v77a v77l v77c =>
ixSl 2 v77a v77l 0 fun p78 =>
ldL S68 p78.1 (p78.2 + 1) fun v79a v79l v79c =>
bytesStr S68 v79a v79l fun s80 =>
callL call 6 [(.int .u8 99)] S68 fun v82a v82l v82c S81 =>
bytesStr S81 v79a v79l fun s83 =>
cond (AV.beq (.str s83) (.str s80)) (
ldL S81 p78.1 (p78.2 + 1) fun v84a v84l v84c =>
cond (AV.beq (.sl v84a v84l v84c) (.sl v79a v79l v79c)) (
ldL S81 p76.1 p76.2 fun v85a v85l v85c =>
cond (AV.beq (.sl v85a v85l v85c) (.sl v77a v77l v77c)) (
bytesStr S81 v82a v82l fun s86 =>
cond (s80 == s86) (
callI .u64 call 16 [(.ptr v38)] S81 fun v88 S87 =>
cond (v88 == 3) (
callI .i64 call 34 [(.int .i64 1)] S87 fun v90 S89 =>
some ((.bool (v90 == 2)), S89)) (
some ((.bool false), S87))) (
some ((.bool false), S81))) none) none) none) (
some ((.bool false), S68))) (
some ((.bool false), S68))) (
some ((.bool false), S68))) (
some ((.bool false), S68))) (
some ((.bool false), S66))) (
some ((.bool false), S64))) (
some ((.bool false), S62))) (
some ((.bool false), S62))) (
some ((.bool false), S60))) (
some ((.bool false), S60))) (
some ((.bool false), S55))))))))))

theorem a8_entry (call : CallA) (n : Nat)  (S : AS) : evC E call n 8 (E.at 8 []) 0 (enumT 0 []) S (retK E (E.fn 8)) = b8_entry call n   S := by kernel_rfl
def J8 (call : CallA) (n : Nat)  (S : AS) : Option (AV × AS) := b8_entry call n   S
theorem run8 (o : Orc) (n : Nat) (args : List AV) (S : AS) (ho : o 8 args = none) : evF E o (n + 1) (.fn 8) args S = evC E (evF E o n) n 8 (E.at 8 []) 0 (enumT 0 args) S (retK E (E.fn 8)) := by
  rw [evF, ho]; kernel_rfl
theorem J8_eq (call : CallA) (n : Nat)  (S : AS) : evC E call n 8 (E.at 8 []) 0 (enumT 0 []) S (retK E (E.fn 8)) = J8 call n  S := by
  rw [J8, a8_entry]
theorem F8 {o : Orc} (n : Nat)  (S : AS) (ho : ∀ args, o 8 args = none) : evF E o (n + 1) (.fn 8) [] S = J8 (evF E o n) n  S := (run8 o n [] S (ho _)).trans (J8_eq _ _  S)
def b9_entry (call : CallA) (n : Nat)  (x0 : Int) (S : AS) : Option (AV × AS) :=
some ((.int .i64 x0), S)

theorem a9_entry (call : CallA) (n : Nat) (x0 : Int) (S : AS) : evC E call n 9 (E.at 9 []) 0 (enumT 0 [(.int .i64 x0)]) S (retK E (E.fn 9)) = b9_entry call n  x0 S := by kernel_rfl
def J9 (call : CallA) (n : Nat) (x0 : Int) (S : AS) : Option (AV × AS) := b9_entry call n  x0 S
theorem run9 (o : Orc) (n : Nat) (args : List AV) (S : AS) (ho : o 9 args = none) : evF E o (n + 1) (.fn 9) args S = evC E (evF E o n) n 9 (E.at 9 []) 0 (enumT 0 args) S (retK E (E.fn 9)) := by
  rw [evF, ho]; kernel_rfl
theorem J9_eq (call : CallA) (n : Nat) (x0 : Int) (S : AS) : evC E call n 9 (E.at 9 []) 0 (enumT 0 [(.int .i64 x0)]) S (retK E (E.fn 9)) = J9 call n x0 S := by
  rw [J9, a9_entry]
theorem F9 {o : Orc} (n : Nat) (x0 : Int) (S : AS) (ho : ∀ args, o 9 args = none) : evF E o (n + 1) (.fn 9) [(.int .i64 x0)] S = J9 (evF E o n) n x0 S := (run9 o n [(.int .i64 x0)] S (ho _)).trans (J9_eq _ _ x0 S)
def b10_entry (call : CallA) (n : Nat)  (x0 : Option Pos) (S : AS) : Option (AV × AS) :=
cond x0.isNone (
some ((.int .i64 7), S)) (
gO x0 fun p1 =>
ldV S p1.1 p1.2 fun v2 =>
invV E call v2 "Flush" [] S fun v4 S3 =>
gIk .i64 v4 fun v5 =>
cond (v5 == 0) (
callI .u64 call 12 [(.ptr x0)] S3 fun v7 S6 =>
gO x0 fun p8 =>
S6.stn p8.1 (p8.2 + 10) [(.int .u64 v7)] fun S9 =>
some ((.int .i64 v5), S9)) (
some ((.int .i64 v5), S3)))

theorem a10_entry (call : CallA) (n : Nat) (x0 : Option Pos) (S : AS) : evC E call n 10 (E.at 10 []) 0 (enumT 0 [(.ptr x0)]) S (retK E (E.fn 10)) = b10_entry call n  x0 S := by kernel_rfl
def J10 (call : CallA) (n : Nat) (x0 : Option Pos) (S : AS) : Option (AV × AS) := b10_entry call n  x0 S
theorem run10 (o : Orc) (n : Nat) (args : List AV) (S : AS) (ho : o 10 args = none) : evF E o (n + 1) (.fn 10) args S = evC E (evF E o n) n 10 (E.at 10 []) 0 (enumT 0 args) S (retK E (E.fn 10)) := by
  rw [evF, ho]; kernel_rfl
theorem J10_eq (call : CallA) (n : Nat) (x0 : Option Pos) (S : AS) : evC E call n 10 (E.at 10 []) 0 (enumT 0 [(.ptr x0)]) S (retK E (E.fn 10)) = J10 call n x0 S := by
  rw [J10, a10_entry]
theorem F10 {o : Orc} (n : Nat) (x0 : Option Pos) (S : AS) (ho : ∀ args, o 10 args = none) : evF E o (n + 1) (.fn 10) [(.ptr x0)] S = J10 (evF E o n) n x0 S := (run10 o n [(.ptr x0)] S (ho _)).trans (J10_eq _ _ x0 S)
def b11_l1_1_1_1_1_0_1_0 (call : CallA) (n : Nat) (l1_1_1_1_1_0_1_0 : Option Pos → Int → Option Pos → Option Pos → Nat → Cap → Int → Int → AS → Option (AV × AS)) (j1_1_1_1_1_1 : Option Pos → Int → Option Pos → AS → Option (AV × AS)) (w0 : Option Pos) (w5 : Int) (w6 : Option Pos) (w56a : Option Pos) (w56l : Nat) (w56c : Cap) (w57 : Int) (w58 : Int) (S : AS) : Option (AV × AS) :=
cond (decide (w58 < w57)) (
ixSl 3 w56a w56l w58 fun p18 =>
S.ldn p18.1 p18.2 3 fun g19 =>
newA S (.cells [(.int .i64 0), (.int .u64 0), (.int .u64 0)]) fun b20 S21 =>
ifO (g19.length = 3) <|
S21.stn (.rw b20) 0 g19 fun S22 =>
gO w6 fun p23 =>
ldI .u64 S22 p23.1 (p23.2 + 2) fun v24 =>
ldI .i64 S22 (.rw b20) 0 fun v25 =>
gO w6 fun p26 =>
S22.stn p26.1 (p26.2 + 2) [(.int .u64 (IntKind.wrap .u64 (v24 + (IntKind.wrap .u64 v25))))] fun S27 =>
ldI .u64 S27 (.rw b20) 1 fun v28 =>
ldI .u64 S27 (.rw b20) 2 fun v29 =>
gO w6 fun p30 =>
S27.stn p30.1 (p30.2 + 4) [(.int .u64 v28)] fun S31 =>
ldI .u64 S31 (.rw b20) 2 fun v32 =>
cond (AV.beq (.int .u64 v32) (.int .u64 v29)) (
gO w6 fun p33 =>
S31.stn p33.1 (p33.2 + 5) [(.int .u64 v29)] fun S34 =>
l1_1_1_1_1_0_1_0 w0 w5 w6 w56a w56l w56c w57 (IntKind.wrap .i64 (w58 + 1)) S34) none) (
j1_1_1_1_1_1 w0 w5 w6 S)

def b11_j1_1_1_1_1_1 (call : CallA) (n : Nat)  (w0 : Option Pos) (w5 : Int) (w6 : Option Pos) (S : AS) : Option (AV × AS) :=
gO w6 fun p35 =>
S.ldn p35.1 p35.2 6 fun g36 =>
callI .i64 call 42 [(.ptr w0), (.agg g36)] S fun v38 S37 =>
cond (v38 != 0) (
some ((.int .i64 v38), S37)) (
gO w0 fun p39 =>
ldL S37 p39.1 (p39.2 + 9) fun v40a v40l v40c =>
slSl 3 v40a v40l v40c (some w5) none none fun v41a v41l v41c =>
callL call 45 [(.sl v41a v41l v41c)] S37 fun v43a v43l v43c S42 =>
gO w0 fun p44 =>
S42.stn p44.1 (p44.2 + 9) [(.sl v43a v43l v43c)] fun S45 =>
callI .u64 call 12 [(.ptr w0)] S45 fun v47 S46 =>
gO w0 fun p48 =>
S46.stn p48.1 (p48.2 + 10) [(.int .u64 v47)] fun S49 =>
some ((.int .i64 0), S49))

def b11_entry (call : CallA) (n : Nat) (l1_1_1_1_1_0_1_0 : Option Pos → Int → Option Pos → Option Pos → Nat → Cap → Int → Int → AS → Option (AV × AS)) (x0 : Option Pos) (x1 : Int) (S : AS) : Option (AV × AS) :=
cond x0.isNone (
some ((.int .i64 7), S)) (
gO x0 fun p1 =>
ldI .u64 S p1.1 (p1.2 + 10) fun v2 =>
cond (decide (x1 > v2)) (
some ((.int .i64 2), S)) (
gO x0 fun p3 =>
ldI .u64 S p3.1 (p3.2 + 3 + 3) fun v4 =>
cond (decide (x1 < v4)) (
some ((.int .i64 2), S)) (
gO x0 fun p5 =>
ldI .u64 S p5.1 (p5.2 + 3 + 3) fun v6 =>
cond (x1 == v6) (
some ((.int .i64 0), S)) (
gO x0 fun p7 =>
ldI .u64 S p7.1 (p7.2 + 3 + 3) fun v8 =>
gO x0 fun p9 =>
S.ldn p9.1 (p9.2 + 3) 6 fun g10 =>
newA S (.cells [(.int .u64 0), (.int .u64 0), (.int .u64 0), (.int .u64 0), (.int .u64 0), (.int .u64 0)]) fun b11 S12 =>
ifO (g10.length = 6) <|
S12.stn (.rw b11) 0 g10 fun S13 =>
S13.stn (.rw b11) 3 [(.int .u64 x1)] fun S14 =>
gO x0 fun p15 =>
ldL S14 p15.1 (p15.2 + 9) fun v16a v16l v16c =>
slSl 3 v16a v16l v16c none (some (IntKind.wrap .i64 (IntKind.wrap .u64 (x1 - v8)))) none fun v17a v17l v17c =>
l1_1_1_1_1_0_1_0 x0 (IntKind.wrap .i64 (IntKind.wrap .u64 (x1 - v8))) (some ((.rw b11), 0)) v17a v17l v17c ((v17l : Nat) : Int) 0 S14))))

def r11_l1_1_1_1_1_0_1_0 (call : CallA) (n : Nat)  (m : Nat) (w0 : Option Pos) (w5 : Int) (w6 : Option Pos) (w56a : Option Pos) (w56l : Nat) (w56c : Cap) (w57 : Int) (w58 : Int) (S : AS) : Option (AV × AS) := loopN (evC E call n 11 (E.at 11 [1, 1, 1, 1, 1, 0, 1, 0, 0]) 1) [0, 5, 6, 56, 57, 58] m [(0, (.ptr w0)), (5, (.int .i64 w5)), (6, (.ptr w6)), (56, (.sl w56a w56l w56c)), (57, (.int .i64 w57)), (58, (.int .i64 w58))] S (kBlk 1 (kSeq E call n 11 (E.at 11 [1, 1, 1, 1, 1, 1]) 0 (retK E (E.fn 11))))
def r11_j1_1_1_1_1_1 (call : CallA) (n : Nat)  (w0 : Option Pos) (w5 : Int) (w6 : Option Pos) (S : AS) : Option (AV × AS) := evC E call n 11 (E.at 11 [1, 1, 1, 1, 1, 1]) 0 [(0, (.ptr w0)), (5, (.int .i64 w5)), (6, (.ptr w6))] S (retK E (E.fn 11))
theorem a11_l1_1_1_1_1_0_1_0 (call : CallA) (n : Nat)  (m : Nat) (w0 : Option Pos) (w5 : Int) (w6 : Option Pos) (w56a : Option Pos) (w56l : Nat) (w56c : Cap) (w57 : Int) (w58 : Int) (S : AS) : r11_l1_1_1_1_1_0_1_0 call n  (m + 1) w0 w5 w6 w56a w56l w56c w57 w58 S = b11_l1_1_1_1_1_0_1_0 call n (r11_l1_1_1_1_1_0_1_0 call n  m) (r11_j1_1_1_1_1_1 call n ) w0 w5 w6 w56a w56l w56c w57 w58 S := by kernel_rfl
theorem a11_j1_1_1_1_1_1 (call : CallA) (n : Nat)  (w0 : Option Pos) (w5 : Int) (w6 : Option Pos) (S : AS) : r11_j1_1_1_1_1_1 call n  w0 w5 w6 S = b11_j1_1_1_1_1_1 call n  w0 w5 w6 S := by kernel_rfl
theorem a11_entry (call : CallA) (n : Nat) (x0 : Option Pos) (x1 : Int) (S : AS) : evC E call n 11 (E.at 11 []) 0 (enumT 0 [(.ptr x0), (.int .u64 x1)]) S (retK E (E.fn 11)) = b11_entry call n (r11_l1_1_1_1_1_0_1_0 call n  n) x0 x1 S := by kernel_rfl
def J11_j1_1_1_1_1_1 (call : CallA) (n : Nat)  (w0 : Option Pos) (w5 : Int) (w6 : Option Pos) (S : AS) : Option (AV × AS) := b11_j1_1_1_1_1_1 call n  w0 w5 w6 S
theorem h11_j1_1_1_1_1_1 (call : CallA) (n : Nat)  : r11_j1_1_1_1_1_1 call n  = J11_j1_1_1_1_1_1 call n  := by
  funext w0 w5 w6 S
  rw [J11_j1_1_1_1_1_1, a11_j1_1_1_1_1_1]
def J11_l1_1_1_1_1_0_1_0 (call : CallA) (n : Nat)  (m : Nat) : Option Pos → Int → Option Pos → Option Pos → Nat → Cap → Int → Int → AS → Option (AV × AS) := Nat.rec (motive := fun _ => Option Pos → Int → Option Pos → Option Pos → Nat → Cap → Int → Int → AS → Option (AV × AS)) (fun _ _ _ _ _ _ _ _ _ => none) (fun _ ih w0 w5 w6 w56a w56l w56c w57 w58 S => b11_l1_1_1_1_1_0_1_0 call n ih (J11_j1_1_1_1_1_1 call n ) w0 w5 w6 w56a w56l w56c w57 w58 S) m
theorem J11_l1_1_1_1_1_0_1_0_succ (call : CallA) (n : Nat)  (m : Nat) (w0 : Option Pos) (w5 : Int) (w6 : Option Pos) (w56a : Option Pos) (w56l : Nat) (w56c : Cap) (w57 : Int) (w58 : Int) (S : AS) : J11_l1_1_1_1_1_0_1_0 call n  (m + 1) w0 w5 w6 w56a w56l w56c w57 w58 S = b11_l1_1_1_1_1_0_1_0 call n (J11_l1_1_1_1_1_0_1_0 call n  m) (J11_j1_1_1_1_1_1 call n ) w0 w5 w6 w56a w56l w56c w57 w58 S := rfl
theorem h11_l1_1_1_1_1_0_1_0 (call : CallA) (n : Nat)  (m : Nat) : r11_l1_1_1_1_1_0_1_0 call n  m = J11_l1_1_1_1_1_0_1_0 call n  m := by
  induction m with
  | zero => rfl
  | succ m ih =>
    funext w0 w5 w6 w56a w56l w56c w57 w58 S
    rw [J11_l1_1_1_1_1_0_1_0_succ, a11_l1_1_1_1_1_0_1_0, h11_j1_1_1_1_1_1 call n , ih]
def J11 (call : CallA) (n : Nat) (x0 : Option Pos) (x1 : Int) (S : AS) : Option (AV × AS) := b11_entry call n (J11_l1_1_1_1_1_0_1_0 call n  n) x0 x1 S
theorem run11 (o : Orc) (n : Nat) (args : List AV) (S : AS) (ho : o 11 args = none) : evF E o (n + 1) (.fn 11) args S = evC E (evF E o n) n 11 (E.at 11 []) 0 (enumT 0 args) S (retK E (E.fn 11)) := by
  rw [evF, ho]; kernel_rfl
theorem J11_eq (call : CallA) (n : Nat) (x0 : Option Pos) (x1 : Int) (S : AS) : evC E call n 11 (E.at 11 []) 0 (enumT 0 [(.ptr x0), (.int .u64 x1)]) S (retK E (E.fn 11)) = J11 call n x0 x1 S := by
  rw [J11, a11_entry, h11_l1_1_1_1_1_0_1_0 call n  n]
theorem F11 {o : Orc} (n : Nat) (x0 : Option Pos) (x1 : Int) (S : AS) (ho : ∀ args, o 11 args = none) : evF E o (n + 1) (.fn 11) [(.ptr x0), (.int .u64 x1)] S = J11 (evF E o n) n x0 x1 S := (run11 o n [(.ptr x0), (.int .u64 x1)] S (ho _)).trans (J11_eq _ _ x0 x1 S)
def b12_entry (call : CallA) (n : Nat)  (x0 : Option Pos) (S : AS) : Option (AV × AS) :=
cond x0.isNone (
some ((.int .u64 0), S)) (
gO x0 fun p1 =>
ldI .u64 S p1.1 (p1.2 + 3 + 3) fun v2 =>
gO x0 fun p3 =>
ldL S p3.1 (p3.2 + 9) fun v4a v4l v4c =>
some ((.int .u64 (IntKind.wrap .u64 (v2 + (IntKind.wrap .u64 ((v4l : Nat) : Int))))), S))

theorem a12_entry (call : CallA) (n : Nat) (x0 : Option Pos) (S : AS) : evC E call n 12 (E.at 12 []) 0 (enumT 0 [(.ptr x0)]) S (retK E (E.fn 12)) = b12_entry call n  x0 S := by kernel_rfl
def J12 (call : CallA) (n : Nat) (x0 : Option Pos) (S : AS) : Option (AV × AS) := b12_entry call n  x0 S
theorem run12 (o : Orc) (n : Nat) (args : List AV) (S : AS) (ho : o 12 args = none) : evF E o (n + 1) (.fn 12) args S = evC E (evF E o n) n 12 (E.at 12 []) 0 (enumT 0 args) S (retK E (E.fn 12)) := by
  rw [evF, ho]; kernel_rfl
theorem J12_eq (call : CallA) (n : Nat) (x0 : Option Pos) (S : AS) : evC E call n 12 (E.at 12 []) 0 (enumT 0 [(.ptr x0)]) S (retK E (E.fn 12)) = J12 call n x0 S := by
  rw [J12, a12_entry]
theorem F12 {o : Orc} (n : Nat) (x0 : Option Pos) (S : AS) (ho : ∀ args, o 12 args = none) : evF E o (n + 1) (.fn 12) [(.ptr x0)] S = J12 (evF E o n) n x0 S := (run12 o n [(.ptr x0)] S (ho _)).trans (J12_eq _ _ x0 S)
def b13_entry (call : CallA) (n : Nat)  (x0 : Option Pos) (S : AS) : Option (AV × AS) :=
cond x0.isNone (
some ((.int .u64 0), S)) (
gO x0 fun p1 =>
ldI .u64 S p1.1 (p1.2 + 10) fun v2 =>
some ((.int .u64 v2), S))

theorem a13_entry (call : CallA) (n : Nat) (x0 : Option Pos) (S : AS) : evC E call n 13 (E.at 13 []) 0 (enumT 0 [(.ptr x0)]) S (retK E (E.fn 13)) = b13_entry call n  x0 S := by kernel_rfl
def J13 (call : CallA) (n : Nat) (x0 : Option Pos) (S : AS) : Option (AV × AS) := b13_entry call n  x0 S
theorem run13 (o : Orc) (n : Nat) (args : List AV) (S : AS) (ho : o 13 args = none) : evF E o (n + 1) (.fn 13) args S = evC E (evF E o n) n 13 (E.at 13 []) 0 (enumT 0 args) S (retK E (E.fn 13)) := by
  rw [evF, ho]; kernel_rfl
theorem J13_eq (call : CallA) (n : Nat) (x0 : Option Pos) (S : AS) : evC E call n 13 (E.at 13 []) 0 (enumT 0 [(.ptr x0)]) S (retK E (E.fn 13)) = J13 call n x0 S := by
  rw [J13, a13_entry]
theorem F13 {o : Orc} (n : Nat) (x0 : Option Pos) (S : AS) (ho : ∀ args, o 13 args = none) : evF E o (n + 1) (.fn 13) [(.ptr x0)] S = J13 (evF E o n) n x0 S := (run13 o n [(.ptr x0)] S (ho _)).trans (J13_eq _ _ x0 S)
def b14_entry (call : CallA) (n : Nat)  (x0 : Option Pos) (S : AS) : Option (AV × AS) :=
cond x0.isNone (
some ((.int .u64 0), S)) (
gO x0 fun p1 =>
ldI .u64 S p1.1 (p1.2 + 3 + 3) fun v2 =>
some ((.int .u64 v2), S))

theorem a14_entry (call : CallA) (n : Nat) (x0 : Option Pos) (S : AS) : evC E call n 14 (E.at 14 []) 0 (enumT 0 [(.ptr x0)]) S (retK E (E.fn 14)) = b14_entry call n  x0 S := by kernel_rfl
def J14 (call : CallA) (n : Nat) (x0 : Option Pos) (S : AS) : Option (AV × AS) := b14_entry call n  x0 S
theorem run14 (o : Orc) (n : Nat) (args : List AV) (S : AS) (ho : o 14 args = none) : evF E o (n + 1) (.fn 14) args S = evC E (evF E o n) n 14 (E.at 14 []) 0 (enumT 0 args) S (retK E (E.fn 14)) := by
  rw [evF, ho]; kernel_rfl
theorem J14_eq (call : CallA) (n : Nat) (x0 : Option Pos) (S : AS) : evC E call n 14 (E.at 14 []) 0 (enumT 0 [(.ptr x0)]) S (retK E (E.fn 14)) = J14 call n x0 S := by
  rw [J14, a14_entry]
theorem F14 {o : Orc} (n : Nat) (x0 : Option Pos) (S : AS) (ho : ∀ args, o 14 args = none) : evF E o (n + 1) (.fn 14) [(.ptr x0)] S = J14 (evF E o n) n x0 S := (run14 o n [(.ptr x0)] S (ho _)).trans (J14_eq _ _ x0 S)
def b15_l1_1_1_0_1_0 (call : CallA) (n : Nat) (l1_1_1_0_1_0 : Int → Option Pos → Nat → Cap → Int → Int → AS → Option (AV × AS)) (w3 : Int) (w16a : Option Pos) (w16l : Nat) (w16c : Cap) (w17 : Int) (w18 : Int) (S : AS) : Option (AV × AS) :=
cond (decide (w18 < w17)) (
ixSl 3 w16a w16l w18 fun p5 =>
S.ldn p5.1 p5.2 3 fun g6 =>
newA S (.cells [(.int .i64 0), (.int .u64 0), (.int .u64 0)]) fun b7 S8 =>
ifO (g6.length = 3) <|
S8.stn (.rw b7) 0 g6 fun S9 =>
ldI .i64 S9 (.rw b7) 0 fun v10 =>
l1_1_1_0_1_0 (IntKind.wrap .i64 (w3 - v10)) w16a w16l w16c w17 (IntKind.wrap .i64 (w18 + 1)) S9) (
some ((.int .i64 w3), S))

def b15_entry (call : CallA) (n : Nat) (l1_1_1_0_1_0 : Int → Option Pos → Nat → Cap → Int → Int → AS → Option (AV × AS)) (x0 : Option Pos) (S : AS) : Option (AV × AS) :=
cond x0.isNone (
some ((.int .i64 0), S)) (
gO x0 fun p1 =>
ldI .i64 S p1.1 (p1.2 + 2) fun v2 =>
gO x0 fun p3 =>
ldL S p3.1 (p3.2 + 9) fun v4a v4l v4c =>
l1_1_1_0_1_0 (IntKind.wrap .i64 (v2 - 2)) v4a v4l v4c ((v4l : Nat) : Int) 0 S)

def r15_l1_1_1_0_1_0 (call : CallA) (n : Nat)  (m : Nat) (w3 : Int) (w16a : Option Pos) (w16l : Nat) (w16c : Cap) (w17 : Int) (w18 : Int) (S : AS) : Option (AV × AS) := loopN (evC E call n 15 (E.at 15 [1, 1, 1, 0, 1, 0, 0]) 0) [3, 16, 17, 18] m [(3, (.int .i64 w3)), (16, (.sl w16a w16l w16c)), (17, (.int .i64 w17)), (18, (.int .i64 w18))] S (kBlk 0 (kSeq E call n 15 (E.at 15 [1, 1, 1, 1]) 0 (retK E (E.fn 15))))
theorem a15_l1_1_1_0_1_0 (call : CallA) (n : Nat)  (m : Nat) (w3 : Int) (w16a : Option Pos) (w16l : Nat) (w16c : Cap) (w17 : Int) (w18 : Int) (S : AS) : r15_l1_1_1_0_1_0 call n  (m + 1) w3 w16a w16l w16c w17 w18 S = b15_l1_1_1_0_1_0 call n (r15_l1_1_1_0_1_0 call n  m) w3 w16a w16l w16c w17 w18 S := by kernel_rfl
theorem a15_entry (call : CallA) (n : Nat) (x0 : Option Pos) (S : AS) : evC E call n 15 (E.at 15 []) 0 (enumT 0 [(.ptr x0)]) S (retK E (E.fn 15)) = b15_entry call n (r15_l1_1_1_0_1_0 call n  n) x0 S := by kernel_rfl
def J15_l1_1_1_0_1_0 (call : CallA) (n : Nat)  (m : Nat) : Int → Option Pos → Nat → Cap → Int → Int → AS → Option (AV × AS) := Nat.rec (motive := fun _ => Int → Option Pos → Nat → Cap → Int → Int → AS → Option (AV × AS)) (fun _ _ _ _ _ _ _ => none) (fun _ ih w3 w16a w16l w16c w17 w18 S => b15_l1_1_1_0_1_0 call n ih w3 w16a w16l w16c w17 w18 S) m
theorem J15_l1_1_1_0_1_0_succ (call : CallA) (n : Nat)  (m : Nat) (w3 : Int) (w16a : Option Pos) (w16l : Nat) (w16c : Cap) (w17 : Int) (w18 : Int) (S : AS) : J15_l1_1_1_0_1_0 call n  (m + 1) w3 w16a w16l w16c w17 w18 S = b15_l1_1_1_0_1_0 call n (J15_l1_1_1_0_1_0 call n  m) w3 w16a w16l w16c w17 w18 S := rfl
theorem h15_l1_1_1_0_1_0 (call : CallA) (n : Nat)  (m : Nat) : r15_l1_1_1_0_1_0 call n  m = J15_l1_1_1_0_1_0 call n  m := by
  induction m with
  | zero => rfl
  | succ m ih =>
    funext w3 w16a w16l w16c w17 w18 S
    rw [J15_l1_1_1_0_1_0_succ, a15_l1_1_1_0_1_0, ih]
def J15 (call : CallA) (n : Nat) (x0 : Option Pos) (S : AS) : Option (AV × AS) := b15_entry call n (J15_l1_1_1_0_1_0 call n  n) x0 S
theorem run15 (o : Orc) (n : Nat) (args : List AV) (S : AS) (ho : o 15 args = none) : evF E o (n + 1) (.fn 15) args S = evC E (evF E o n) n 15 (E.at 15 []) 0 (enumT 0 args) S (retK E (E.fn 15)) := by
  rw [evF, ho]; kernel_rfl
theorem J15_eq (call : CallA) (n : Nat) (x0 : Option Pos) (S : AS) : evC E call n 15 (E.at 15 []) 0 (enumT 0 [(.ptr x0)]) S (retK E (E.fn 15)) = J15 call n x0 S := by
  rw [J15, a15_entry, h15_l1_1_1_0_1_0 call n  n]
theorem F15 {o : Orc} (n : Nat) (x0 : Option Pos) (S : AS) (ho : ∀ args, o 15 args = none) : evF E o (n + 1) (.fn 15) [(.ptr x0)] S = J15 (evF E o n) n x0 S := (run15 o n [(.ptr x0)] S (ho _)).trans (J15_eq _ _ x0 S)
def b16_entry (call : CallA) (n : Nat)  (x0 : Option Pos) (S : AS) : Option (AV × AS) :=
cond x0.isNone (
some ((.int .u64 0), S)) (
gO x0 fun p1 =>
ldI .u64 S p1.1 (p1.2 + 3 + 1) fun v2 =>
some ((.int .u64 v2), S))

theorem a16_entry (call : CallA) (n : Nat) (x0 : Option Pos) (S : AS) : evC E call n 16 (E.at 16 []) 0 (enumT 0 [(.ptr x0)]) S (retK E (E.fn 16)) = b16_entry call n  x0 S := by kernel_rfl
def J16 (call : CallA) (n : Nat) (x0 : Option Pos) (S : AS) : Option (AV × AS) := b16_entry call n  x0 S
theorem run16 (o : Orc) (n : Nat) (args : List AV) (S : AS) (ho : o 16 args = none) : evF E o (n + 1) (.fn 16) args S = evC E (evF E o n) n 16 (E.at 16 []) 0 (enumT 0 args) S (retK E (E.fn 16)) := by
  rw [evF, ho]; kernel_rfl
theorem J16_eq (call : CallA) (n : Nat) (x0 : Option Pos) (S : AS) : evC E call n 16 (E.at 16 []) 0 (enumT 0 [(.ptr x0)]) S (retK E (E.fn 16)) = J16 call n x0 S := by
  rw [J16, a16_entry]
theorem F16 {o : Orc} (n : Nat) (x0 : Option Pos) (S : AS) (ho : ∀ args, o 16 args = none) : evF E o (n + 1) (.fn 16) [(.ptr x0)] S = J16 (evF E o n) n x0 S := (run16 o n [(.ptr x0)] S (ho _)).trans (J16_eq _ _ x0 S)
def b17_l1_1_0_1_0 (call : CallA) (n : Nat) (l1_1_0_1_0 : AV → Int → Int → Int → Int → AS → Option (AV × AS)) (j1_1_1 : AV → Int → AS → Option (AV × AS)) (w0 : AV) (w1 : Int) (w2 : Int) (w6 : Int) (w8 : Int) (S : AS) : Option (AV × AS) :=
cond (decide (w8 < (IntKind.wrap .i64 (w1 + w2)))) (
drawA S 8 fun b3 S4 =>
mkSl 1 384 384 fun l5 c6 =>
mthV w0 "Write" fun v7 =>
nilV E v7 fun v8 =>
layA S4 (b3 + 2) (.cells (zeros c6 [(.int .u8 0)])) fun S9 =>
invV E call w0 "Write" [(.int .i64 w8), (.sl (some (.rw (b3 + 2), 0)) l5 (.ex c6))] S9 fun v11 S10 =>
gIk .i64 v11 fun v12 =>
cond (v12 != 0) (
some ((.int .i64 v12), S10)) (
l1_1_0_1_0 w0 w1 w2 w6 (IntKind.wrap .i64 (w8 + 1)) S10)) (
j1_1_1 w0 w1 S)

def b17_j1_1_1 (call : CallA) (n : Nat) (l1_1_1_1_0_1_0 : AV → Int → AV → Int → AS → Option (AV × AS)) (w0 : AV) (w1 : Int) (S : AS) : Option (AV × AS) :=
invV E call w0 "Flush" [] S fun v14 S13 =>
gIk .i64 v14 fun v15 =>
cond (v15 != 0) (
some ((.int .i64 v15), S13)) (
l1_1_1_1_0_1_0 w0 w1 .undef 0 S13)

def b17_l1_1_1_1_0_1_0 (call : CallA) (n : Nat) (l1_1_1_1_0_1_0 : AV → Int → AV → Int → AS → Option (AV × AS)) (j1_1_1_1_1 : AV → AS → Option (AV × AS)) (w0 : AV) (w1 : Int) (w6 : AV) (w46 : Int) (S : AS) : Option (AV × AS) :=
cond (decide (w46 < 2)) (
callT call 46 [(.agg [(.int .u64 (IntKind.wrap .u64 (IntKind.wrap .i64 (w46 + 1)))), (.int .u64 1), (.int .u64 0), (.int .u64 0), (.int .u64 0), (.int .u64 0)])] S fun v17 S16 =>
atL v17 0 fun v18a v18l v18c =>
atI .i64 v17 1 fun v19 =>
invV E call w0 "Write" [(.int .i64 (IntKind.wrap .i64 (w1 + w46))), (.sl v18a v18l v18c)] S16 fun v21 S20 =>
gIk .i64 v21 fun v22 =>
cond (v22 != 0) (
some ((.int .i64 v22), S20)) (
l1_1_1_1_0_1_0 w0 w1 w6 (IntKind.wrap .i64 (w46 + 1)) S20)) (
j1_1_1_1_1 w0 S)

def b17_j1_1_1_1_1 (call : CallA) (n : Nat)  (w0 : AV) (S : AS) : Option (AV × AS) :=
invV E call w0 "Flush" [] S fun v24 S23 =>
gIk .i64 v24 fun v25 =>
some ((.int .i64 v25), S23)

def b17_entry (call : CallA) (n : Nat) (l1_1_0_1_0 : AV → Int → Int → Int → Int → AS → Option (AV × AS)) (x0 : AV) (x1 : Int) (x2 : Int) (S : AS) : Option (AV × AS) :=
callI .i64 call 39 [x0, (.int .i64 x1), (.int .i64 x2)] S fun v2 S1 =>
cond (v2 != 0) (
some ((.int .i64 v2), S1)) (
l1_1_0_1_0 x0 x1 x2 0 (IntKind.wrap .i64 (x1 + 2)) S1)

def r17_l1_1_0_1_0 (call : CallA) (n : Nat)  (m : Nat) (w0 : AV) (w1 : Int) (w2 : Int) (w6 : Int) (w8 : Int) (S : AS) : Option (AV × AS) := loopN (evC E call n 17 (E.at 17 [1, 1, 0, 1, 0, 0]) 0) [0, 1, 2, 6, 8] m [(0, w0), (1, (.int .i64 w1)), (2, (.int .i64 w2)), (6, (.int .i64 w6)), (8, (.int .i64 w8))] S (kBlk 0 (kSeq E call n 17 (E.at 17 [1, 1, 1]) 0 (retK E (E.fn 17))))
def r17_j1_1_1 (call : CallA) (n : Nat)  (w0 : AV) (w1 : Int) (S : AS) : Option (AV × AS) := evC E call n 17 (E.at 17 [1, 1, 1]) 0 [(0, w0), (1, (.int .i64 w1))] S (retK E (E.fn 17))
def r17_l1_1_1_1_0_1_0 (call : CallA) (n : Nat)  (m : Nat) (w0 : AV) (w1 : Int) (w6 : AV) (w46 : Int) (S : AS) : Option (AV × AS) := loopN (evC E call n 17 (E.at 17 [1, 1, 1, 1, 0, 1, 0, 0]) 2) [0, 1, 6, 46] m [(0, w0), (1, (.int .i64 w1)), (6, w6), (46, (.int .i64 w46))] S (kBlk 2 (kSeq E call n 17 (E.at 17 [1, 1, 1, 1, 1]) 0 (retK E (E.fn 17))))
def r17_j1_1_1_1_1 (call : CallA) (n : Nat)  (w0 : AV) (S : AS) : Option (AV × AS) := evC E call n 17 (E.at 17 [1, 1, 1, 1, 1]) 0 [(0, w0)] S (retK E (E.fn 17))
theorem a17_l1_1_0_1_0 (call : CallA) (n : Nat)  (m : Nat) (w0 : AV) (w1 : Int) (w2 : Int) (w6 : Int) (w8 : Int) (S : AS) : r17_l1_1_0_1_0 call n  (m + 1) w0 w1 w2 w6 w8 S = b17_l1_1_0_1_0 call n (r17_l1_1_0_1_0 call n  m) (r17_j1_1_1 call n ) w0 w1 w2 w6 w8 S := by kernel_rfl
theorem a17_j1_1_1 (call : CallA) (n : Nat)  (w0 : AV) (w1 : Int) (S : AS) : r17_j1_1_1 call n  w0 w1 S = b17_j1_1_1 call n (r17_l1_1_1_1_0_1_0 call n  n) w0 w1 S := by kernel_rfl
theorem a17_l1_1_1_1_0_1_0 (call : CallA) (n : Nat)  (m : Nat) (w0 : AV) (w1 : Int) (w6 : AV) (w46 : Int) (S : AS) : r17_l1_1_1_1_0_1_0 call n  (m + 1) w0 w1 w6 w46 S = b17_l1_1_1_1_0_1_0 call n (r17_l1_1_1_1_0_1_0 call n  m) (r17_j1_1_1_1_1 call n ) w0 w1 w6 w46 S := by kernel_rfl
theorem a17_j1_1_1_1_1 (call : CallA) (n : Nat)  (w0 : AV) (S : AS) : r17_j1_1_1_1_1 call n  w0 S = b17_j1_1_1_1_1 call n  w0 S := by kernel_rfl
theorem a17_entry (call : CallA) (n : Nat) (x0 : AV) (x1 : Int) (x2 : Int) (S : AS) : evC E call n 17 (E.at 17 []) 0 (enumT 0 [x0, (.int .i64 x1), (.int .i64 x2)]) S (retK E (E.fn 17)) = b17_entry call n (r17_l1_1_0_1_0 call n  n) x0 x1 x2 S := by kernel_rfl
def J17_j1_1_1_1_1 (call : CallA) (n : Nat)  (w0 : AV) (S : AS) : Option (AV × AS) := b17_j1_1_1_1_1 call n  w0 S
theorem h17_j1_1_1_1_1 (call : CallA) (n : Nat)  : r17_j1_1_1_1_1 call n  = J17_j1_1_1_1_1 call n  := by
  funext w0 S
  rw [J17_j1_1_1_1_1, a17_j1_1_1_1_1]
def J17_l1_1_1_1_0_1_0 (call : CallA) (n : Nat)  (m : Nat) : AV → Int → AV → Int → AS → Option (AV × AS) := Nat.rec (motive := fun _ => AV → Int → AV → Int → AS → Option (AV × AS)) (fun _ _ _ _ _ => none) (fun _ ih w0 w1 w6 w46 S => b17_l1_1_1_1_0_1_0 call n ih (J17_j1_1_1_1_1 call n ) w0 w1 w6 w46 S) m
theorem J17_l1_1_1_1_0_1_0_succ (call : CallA) (n : Nat)  (m : Nat) (w0 : AV) (w1 : Int) (w6 : AV) (w46 : Int) (S : AS) : J17_l1_1_1_1_0_1_0 call n  (m + 1) w0 w1 w6 w46 S = b17_l1_1_1_1_0_1_0 call n (J17_l1_1_1_1_0_1_0 call n  m) (J17_j1_1_1_1_1 call n ) w0 w1 w6 w46 S := rfl
theorem h17_l1_1_1_1_0_1_0 (call : CallA) (n : Nat)  (m : Nat) : r17_l1_1_1_1_0_1_0 call n  m = J17_l1_1_1_1_0_1_0 call n  m := by
  induction m with
  | zero => rfl
  | succ m ih =>
    funext w0 w1 w6 w46 S
    rw [J17_l1_1_1_1_0_1_0_succ, a17_l1_1_1_1_0_1_0, h17_j1_1_1_1_1 call n , ih]
def J17_j1_1_1 (call : CallA) (n : Nat)  (w0 : AV) (w1 : Int) (S : AS) : Option (AV × AS) := b17_j1_1_1 call n (J17_l1_1_1_1_0_1_0 call n  n) w0 w1 S
theorem h17_j1_1_1 (call : CallA) (n : Nat)  : r17_j1_1_1 call n  = J17_j1_1_1 call n  := by
  funext w0 w1 S
  rw [J17_j1_1_1, a17_j1_1_1, h17_l1_1_1_1_0_1_0 call n  n]
def J17_l1_1_0_1_0 (call : CallA) (n : Nat)  (m : Nat) : AV → Int → Int → Int → Int → AS → Option (AV × AS) := Nat.rec (motive := fun _ => AV → Int → Int → Int → Int → AS → Option (AV × AS)) (fun _ _ _ _ _ _ => none) (fun _ ih w0 w1 w2 w6 w8 S => b17_l1_1_0_1_0 call n ih (J17_j1_1_1 call n ) w0 w1 w2 w6 w8 S) m
theorem J17_l1_1_0_1_0_succ (call : CallA) (n : Nat)  (m : Nat) (w0 : AV) (w1 : Int) (w2 : Int) (w6 : Int) (w8 : Int) (S : AS) : J17_l1_1_0_1_0 call n  (m + 1) w0 w1 w2 w6 w8 S = b17_l1_1_0_1_0 call n (J17_l1_1_0_1_0 call n  m) (J17_j1_1_1 call n ) w0 w1 w2 w6 w8 S := rfl
theorem h17_l1_1_0_1_0 (call : CallA) (n : Nat)  (m : Nat) : r17_l1_1_0_1_0 call n  m = J17_l1_1_0_1_0 call n  m := by
  induction m with
  | zero => rfl
  | succ m ih =>
    funext w0 w1 w2 w6 w8 S
    rw [J17_l1_1_0_1_0_succ, a17_l1_1_0_1_0, h17_j1_1_1 call n , ih]
def J17 (call : CallA) (n : Nat) (x0 : AV) (x1 : Int) (x2 : Int) (S : AS) : Option (AV × AS) := b17_entry call n (J17_l1_1_0_1_0 call n  n) x0 x1 x2 S
theorem run17 (o : Orc) (n : Nat) (args : List AV) (S : AS) (ho : o 17 args = none) : evF E o (n + 1) (.fn 17) args S = evC E (evF E o n) n 17 (E.at 17 []) 0 (enumT 0 args) S (retK E (E.fn 17)) := by
  rw [evF, ho]; kernel_rfl
theorem J17_eq (call : CallA) (n : Nat) (x0 : AV) (x1 : Int) (x2 : Int) (S : AS) : evC E call n 17 (E.at 17 []) 0 (enumT 0 [x0, (.int .i64 x1), (.int .i64 x2)]) S (retK E (E.fn 17)) = J17 call n x0 x1 x2 S := by
  rw [J17, a17_entry, h17_l1_1_0_1_0 call n  n]
theorem F17 {o : Orc} (n : Nat) (x0 : AV) (x1 : Int) (x2 : Int) (S : AS) (ho : ∀ args, o 17 args = none) : evF E o (n + 1) (.fn 17) [x0, (.int .i64 x1), (.int .i64 x2)] S = J17 (evF E o n) n x0 x1 x2 S := (run17 o n [x0, (.int .i64 x1), (.int .i64 x2)] S (ho _)).trans (J17_eq _ _ x0 x1 x2 S)
end
end Go.Na
