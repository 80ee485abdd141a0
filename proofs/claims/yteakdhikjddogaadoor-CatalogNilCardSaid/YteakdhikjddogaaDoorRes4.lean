/- Plain readings of the functions, and that they are what the evaluator does: by program. -/
import Derived.Test.YteakdhikjddogaaDoorGrRes
import Derived.Test.YteakdhikjddogaaDoorENV
import Derived.KernelRfl
set_option maxRecDepth 100000
set_option linter.unusedVariables false
namespace Go.Ct
open Go.Gr
noncomputable section
def b54_l1_1_1_1_0_1_0 (call : CallA) (n : Nat)  (l1_1_1_1_0_1_0 : Option Pos → Bool → Int → Int → Bool → Option Pos → Nat → Cap → Int → Int → AS → Option (AV × AS)) (j1_1_1_1_1 : Option Pos → Int → Int → Bool → AS → Option (AV × AS)) (w0 : Option Pos) (w2 : Bool) (w3 : Int) (w4 : Int) (w5 : Bool) (w40a : Option Pos) (w40l : Nat) (w40c : Cap) (w41 : Int) (w42 : Int) (S : AS) : Option (AV × AS) :=
 cond (decide (w42 < w41)) (
 ixSl 4 w40a w40l w42 fun p13 =>
 S.ldn p13.1 p13.2 4 fun g14 =>
 newA S (.cells [(.int .u32 0), (.int .u64 0), (.str ([])), (.int .u64 0)]) fun b15 S16 =>
 ifO (g14.length = 4) <|
 S16.stn (.rw b15) 0 g14 fun S17 =>
 ldI .u32 S17 (.rw b15) 0 fun v18 =>
 cond (decide ((IntKind.wrap .u64 v18) ≤ w3)) (
 some ((.bool false), S17)) (
 gO w0 fun p19 =>
 ldI .u64 S17 p19.1 (p19.2 + 1) fun v20 =>
 cond (decide ((IntKind.wrap .u64 v18) > v20)) (
 some ((.bool false), S17)) (
 ldI .u64 S17 (.rw b15) 1 fun v21 =>
 callB call 62 [(.int .u64 (IntKind.wrap .u64 ((IntKind.wrap .u64 v18) - w3))), (.int .u64 w4), (.int .u64 v21), (.bool w5)] S17 fun v23 S22 =>
 cond (!v23) (
 some ((.bool false), S22)) (
 ldI .u64 S22 (.rw b15) 1 fun v24 =>
 l1_1_1_1_0_1_0 w0 w2 (IntKind.wrap .u64 v18) v24 false w40a w40l w40c w41 (IntKind.wrap .i64 (w42 + 1)) S22)))) (
 j1_1_1_1_1 w0 w3 w4 w5 S)

def b54_j1_1_1_1_1 (call : CallA) (n : Nat)   (w0 : Option Pos) (w3 : Int) (w4 : Int) (w5 : Bool) (S : AS) : Option (AV × AS) :=
 gO w0 fun p25 =>
 ldI .u64 S p25.1 (p25.2 + 1) fun v26 =>
 cond (v26 == 0) (
 some ((.bool true), S)) (
 gO w0 fun p27 =>
 ldI .u64 S p27.1 (p27.2 + 1) fun v28 =>
 cond (v28 == w3) (
 gO w0 fun p29 =>
 ldI .u64 S p29.1 (p29.2 + 2) fun v30 =>
 some ((.bool (w4 == v30)), S)) (
 gO w0 fun p31 =>
 ldI .u64 S p31.1 (p31.2 + 1) fun v32 =>
 gO w0 fun p33 =>
 ldI .u64 S p33.1 (p33.2 + 2) fun v34 =>
 callB call 62 [(.int .u64 (IntKind.wrap .u64 (v32 - w3))), (.int .u64 w4), (.int .u64 v34), (.bool w5)] S fun v36 S35 =>
 some ((.bool v36), S35)))

def b54_entry (call : CallA) (n : Nat)  (l1_1_1_1_0_1_0 : Option Pos → Bool → Int → Int → Bool → Option Pos → Nat → Cap → Int → Int → AS → Option (AV × AS)) (x0 : Option Pos) (S : AS) : Option (AV × AS) :=
 gO x0 fun p1 =>
 ldL S p1.1 p1.2 fun v2a v2l v2c =>
 cond (decide (((v2l : Nat) : Int) > 256)) (
 some ((.bool false), S)) (
 gO x0 fun p3 =>
 ldI .u64 S p3.1 (p3.2 + 1) fun v4 =>
 cond (v4 == 0) (
 gO x0 fun p5 =>
 ldI .u64 S p5.1 (p5.2 + 2) fun v6 =>
 cond (v6 != 0) (
 some ((.bool false), S)) (
 gO x0 fun p7 =>
 ldL S p7.1 p7.2 fun v8a v8l v8c =>
 cond (decide (((v8l : Nat) : Int) > 0)) (
 some ((.bool false), S)) (
 gO x0 fun p9 =>
 ldL S p9.1 p9.2 fun v10a v10l v10c =>
 l1_1_1_1_0_1_0 x0 false 0 0 true v10a v10l v10c ((v10l : Nat) : Int) 0 S))) (
 gO x0 fun p11 =>
 ldL S p11.1 p11.2 fun v12a v12l v12c =>
 l1_1_1_1_0_1_0 x0 false 0 0 true v12a v12l v12c ((v12l : Nat) : Int) 0 S))

def r54_l1_1_1_1_0_1_0 (call : CallA) (n : Nat)  (m : Nat) (w0 : Option Pos) (w2 : Bool) (w3 : Int) (w4 : Int) (w5 : Bool) (w40a : Option Pos) (w40l : Nat) (w40c : Cap) (w41 : Int) (w42 : Int) (S : AS) : Option (AV × AS) := loopN (evC E call n 54 (E.at 54 [1, 1, 1, 1, 0, 1, 0, 0]) 0) [0, 2, 3, 4, 5, 40, 41, 42] m [(0, (.ptr w0)), (2, (.bool w2)), (3, (.int .u64 w3)), (4, (.int .u64 w4)), (5, (.bool w5)), (40, (.sl w40a w40l w40c)), (41, (.int .i64 w41)), (42, (.int .i64 w42))] S (kBlk 0 (kSeq E call n 54 (E.at 54 [1, 1, 1, 1, 1]) 0 (retK E (E.fn 54))))
def r54_j1_1_1_1_1 (call : CallA) (n : Nat)  (w0 : Option Pos) (w3 : Int) (w4 : Int) (w5 : Bool) (S : AS) : Option (AV × AS) := evC E call n 54 (E.at 54 [1, 1, 1, 1, 1]) 0 [(0, (.ptr w0)), (3, (.int .u64 w3)), (4, (.int .u64 w4)), (5, (.bool w5))] S (retK E (E.fn 54))
theorem a54_l1_1_1_1_0_1_0 (call : CallA) (n : Nat)  (m : Nat) (w0 : Option Pos) (w2 : Bool) (w3 : Int) (w4 : Int) (w5 : Bool) (w40a : Option Pos) (w40l : Nat) (w40c : Cap) (w41 : Int) (w42 : Int) (S : AS) : r54_l1_1_1_1_0_1_0 call n  (m + 1) w0 w2 w3 w4 w5 w40a w40l w40c w41 w42 S = b54_l1_1_1_1_0_1_0 call n (r54_l1_1_1_1_0_1_0 call n  m) (r54_j1_1_1_1_1 call n ) w0 w2 w3 w4 w5 w40a w40l w40c w41 w42 S := by kernel_rfl
theorem a54_j1_1_1_1_1 (call : CallA) (n : Nat)  (w0 : Option Pos) (w3 : Int) (w4 : Int) (w5 : Bool) (S : AS) : r54_j1_1_1_1_1 call n  w0 w3 w4 w5 S = b54_j1_1_1_1_1 call n  w0 w3 w4 w5 S := by kernel_rfl
theorem a54_entry (call : CallA) (n : Nat) (x0 : Option Pos) (S : AS) : evC E call n 54 (E.at 54 []) 0 (enumT 0 [(.ptr x0)]) S (retK E (E.fn 54)) = b54_entry call n (r54_l1_1_1_1_0_1_0 call n  n) x0 S := by kernel_rfl
def J54_j1_1_1_1_1 (call : CallA) (n : Nat)  (w0 : Option Pos) (w3 : Int) (w4 : Int) (w5 : Bool) (S : AS) : Option (AV × AS) := b54_j1_1_1_1_1 call n  w0 w3 w4 w5 S
theorem h54_j1_1_1_1_1 (call : CallA) (n : Nat)  : r54_j1_1_1_1_1 call n  = J54_j1_1_1_1_1 call n  := by
  funext w0 w3 w4 w5 S
  rw [J54_j1_1_1_1_1, a54_j1_1_1_1_1]
def J54_l1_1_1_1_0_1_0 (call : CallA) (n : Nat)  (m : Nat) : Option Pos → Bool → Int → Int → Bool → Option Pos → Nat → Cap → Int → Int → AS → Option (AV × AS) := Nat.rec (motive := fun _ => Option Pos → Bool → Int → Int → Bool → Option Pos → Nat → Cap → Int → Int → AS → Option (AV × AS)) (fun _ _ _ _ _ _ _ _ _ _ _ => none) (fun mK ih w0 w2 w3 w4 w5 w40a w40l w40c w41 w42 S => b54_l1_1_1_1_0_1_0 call n ih (J54_j1_1_1_1_1 call n ) w0 w2 w3 w4 w5 w40a w40l w40c w41 w42 S) m
theorem J54_l1_1_1_1_0_1_0_succ (call : CallA) (n : Nat)  (m : Nat) (w0 : Option Pos) (w2 : Bool) (w3 : Int) (w4 : Int) (w5 : Bool) (w40a : Option Pos) (w40l : Nat) (w40c : Cap) (w41 : Int) (w42 : Int) (S : AS) : J54_l1_1_1_1_0_1_0 call n  (m + 1) w0 w2 w3 w4 w5 w40a w40l w40c w41 w42 S = b54_l1_1_1_1_0_1_0 call n (J54_l1_1_1_1_0_1_0 call n  m) (J54_j1_1_1_1_1 call n ) w0 w2 w3 w4 w5 w40a w40l w40c w41 w42 S := rfl
theorem h54_l1_1_1_1_0_1_0 (call : CallA) (n : Nat)  (m : Nat) : r54_l1_1_1_1_0_1_0 call n  m = J54_l1_1_1_1_0_1_0 call n  m := by
  induction m with
  | zero => rfl
  | succ m ih =>
    funext w0 w2 w3 w4 w5 w40a w40l w40c w41 w42 S
    rw [J54_l1_1_1_1_0_1_0_succ, a54_l1_1_1_1_0_1_0, h54_j1_1_1_1_1 call n , ih]
def J54 (call : CallA) (n : Nat) (x0 : Option Pos) (S : AS) : Option (AV × AS) := b54_entry call n (J54_l1_1_1_1_0_1_0 call n  n) x0 S
theorem run54 (o : Orc) (n : Nat) (args : List AV) (S : AS) (ho : o 54 args = none) : evF E o (n + 1) (.fn 54) args S = evC E (evF E o n) n 54 (E.at 54 []) 0 (enumT 0 args) S (retK E (E.fn 54)) := by
  rw [evF, ho]; kernel_rfl
theorem J54_eq (call : CallA) (n : Nat) (x0 : Option Pos) (S : AS) : evC E call n 54 (E.at 54 []) 0 (enumT 0 [(.ptr x0)]) S (retK E (E.fn 54)) = J54 call n x0 S := by
  rw [J54, a54_entry, h54_l1_1_1_1_0_1_0 call n  n]
theorem F54 {o : Orc} (n : Nat) (x0 : Option Pos) (S : AS) (ho : ∀ args, o 54 args = none) : evF E o (n + 1) (.fn 54) [(.ptr x0)] S = J54 (evF E o n) n x0 S := (run54 o n [(.ptr x0)] S (ho _)).trans (J54_eq _ _ x0 S)
def b55_entry (call : CallA) (n : Nat)   (x0 : List UInt8) (x1 : List UInt8) (S : AS) : Option (AV × AS) :=
 callB call 63 [(.str x0), (.str x1)] S fun v2 S1 =>
 cond (!v2) (
 some (.tup [(.str x0), (.bool false)], S1)) (
 slStr x0 (some ((x1.length : Nat) : Int)) none fun v3 =>
 some (.tup [(.str v3), (.bool true)], S1))

theorem a55_entry (call : CallA) (n : Nat) (x0 : List UInt8) (x1 : List UInt8) (S : AS) : evC E call n 55 (E.at 55 []) 0 (enumT 0 [(.str x0), (.str x1)]) S (retK E (E.fn 55)) = b55_entry call n  x0 x1 S := by kernel_rfl
def J55 (call : CallA) (n : Nat) (x0 : List UInt8) (x1 : List UInt8) (S : AS) : Option (AV × AS) := b55_entry call n  x0 x1 S
theorem run55 (o : Orc) (n : Nat) (args : List AV) (S : AS) (ho : o 55 args = none) : evF E o (n + 1) (.fn 55) args S = evC E (evF E o n) n 55 (E.at 55 []) 0 (enumT 0 args) S (retK E (E.fn 55)) := by
  rw [evF, ho]; kernel_rfl
theorem J55_eq (call : CallA) (n : Nat) (x0 : List UInt8) (x1 : List UInt8) (S : AS) : evC E call n 55 (E.at 55 []) 0 (enumT 0 [(.str x0), (.str x1)]) S (retK E (E.fn 55)) = J55 call n x0 x1 S := by
  rw [J55, a55_entry]
theorem F55 {o : Orc} (n : Nat) (x0 : List UInt8) (x1 : List UInt8) (S : AS) (ho : ∀ args, o 55 args = none) : evF E o (n + 1) (.fn 55) [(.str x0), (.str x1)] S = J55 (evF E o n) n x0 x1 S := (run55 o n [(.str x0), (.str x1)] S (ho _)).trans (J55_eq _ _ x0 x1 S)
def b58_l1_1_0 (call : CallA) (n : Nat)  (l1_1_0 : Option Pos → Nat → Cap → Int → Int → Int → Bool → Bool → AS → Option (AV × AS)) (w0a : Option Pos) (w0l : Nat) (w0c : Cap) (w1 : Int) (w2 : Int) (w3 : Int) (w8 : Bool) (w9 : Bool) (S : AS) : Option (AV × AS) :=
 cond (decide ((IntKind.wrap .i64 (w2 - w1)) ≤ 12)) (
 callT call 70 [(.sl w0a w0l w0c), (.int .i64 w1), (.int .i64 w2)] S fun v2 S1 =>
 some (.tup [], S1)) (
 cond (w3 == 0) (
 callT call 71 [(.sl w0a w0l w0c), (.int .i64 w1), (.int .i64 w2)] S fun v4 S3 =>
 some (.tup [], S3)) (
 cond (!w8) (
 callT call 72 [(.sl w0a w0l w0c), (.int .i64 w1), (.int .i64 w2)] S fun v6 S5 =>
 callT call 73 [(.sl w0a w0l w0c), (.int .i64 w1), (.int .i64 w2)] S5 fun v8 S7 =>
 atI .i64 v8 0 fun v9 =>
 atI .i64 v8 1 fun v10 =>
 cond (v10 == 2) (
 callT call 74 [(.sl w0a w0l w0c), (.int .i64 w1), (.int .i64 w2)] S7 fun v12 S11 =>
 cond w8 (
 cond w9 (
 cond (1 == 1) (
 callB call 75 [(.sl w0a w0l w0c), (.int .i64 w1), (.int .i64 w2)] S11 fun v14 S13 =>
 cond v14 (
 some (.tup [], S13)) (
 cond (decide (w1 > 0)) (
 ixSl 1 w0a w0l (IntKind.wrap .i64 (w1 - 1)) fun p15 =>
 ldS S13 p15.1 p15.2 fun v16 =>
 ixSl 1 w0a w0l (IntKind.wrap .i64 ((IntKind.wrap .i64 (w2 - 1)) - (IntKind.wrap .i64 (v9 - w1)))) fun p17 =>
 ldS S13 p17.1 p17.2 fun v18 =>
 callB call 76 [(.str v16), (.str v18)] S13 fun v20 S19 =>
 cond (!v20) (
 callI .i64 call 77 [(.sl w0a w0l w0c), (.int .i64 w1), (.int .i64 w2), (.int .i64 (IntKind.wrap .i64 ((IntKind.wrap .i64 (w2 - 1)) - (IntKind.wrap .i64 (v9 - w1)))))] S19 fun v22 S21 =>
 l1_1_0 w0a w0l w0c v22 w2 (IntKind.wrap .i64 (w3 - 1)) w8 w9 S21) (
 callT call 78 [(.sl w0a w0l w0c), (.int .i64 w1), (.int .i64 w2), (.int .i64 (IntKind.wrap .i64 ((IntKind.wrap .i64 (w2 - 1)) - (IntKind.wrap .i64 (v9 - w1)))))] S19 fun v24 S23 =>
 atI .i64 v24 0 fun v25 =>
 atB v24 1 fun v26 =>
 cond (decide ((IntKind.wrap .i64 (v25 - w1)) < (IntKind.wrap .i64 (w2 - v25)))) (
 callT call 58 [(.sl w0a w0l w0c), (.int .i64 w1), (.int .i64 v25), (.int .i64 (IntKind.wrap .i64 (w3 - 1)))] S23 fun v28 S27 =>
 l1_1_0 w0a w0l w0c (IntKind.wrap .i64 (v25 + 1)) w2 (IntKind.wrap .i64 (w3 - 1)) (decide ((IntKind.wrap .i64 (v25 - w1)) ≥ (IntKind.wrap .i64 (Int.tdiv (IntKind.wrap .i64 (w2 - w1)) 8)))) v26 S27) (
 callT call 58 [(.sl w0a w0l w0c), (.int .i64 (IntKind.wrap .i64 (v25 + 1))), (.int .i64 w2), (.int .i64 (IntKind.wrap .i64 (w3 - 1)))] S23 fun v30 S29 =>
 l1_1_0 w0a w0l w0c w1 v25 (IntKind.wrap .i64 (w3 - 1)) (decide ((IntKind.wrap .i64 (w2 - v25)) ≥ (IntKind.wrap .i64 (Int.tdiv (IntKind.wrap .i64 (w2 - w1)) 8)))) v26 S29))) (
 callT call 78 [(.sl w0a w0l w0c), (.int .i64 w1), (.int .i64 w2), (.int .i64 (IntKind.wrap .i64 ((IntKind.wrap .i64 (w2 - 1)) - (IntKind.wrap .i64 (v9 - w1)))))] S13 fun v32 S31 =>
 atI .i64 v32 0 fun v33 =>
 atB v32 1 fun v34 =>
 cond (decide ((IntKind.wrap .i64 (v33 - w1)) < (IntKind.wrap .i64 (w2 - v33)))) (
 callT call 58 [(.sl w0a w0l w0c), (.int .i64 w1), (.int .i64 v33), (.int .i64 (IntKind.wrap .i64 (w3 - 1)))] S31 fun v36 S35 =>
 l1_1_0 w0a w0l w0c (IntKind.wrap .i64 (v33 + 1)) w2 (IntKind.wrap .i64 (w3 - 1)) (decide ((IntKind.wrap .i64 (v33 - w1)) ≥ (IntKind.wrap .i64 (Int.tdiv (IntKind.wrap .i64 (w2 - w1)) 8)))) v34 S35) (
 callT call 58 [(.sl w0a w0l w0c), (.int .i64 (IntKind.wrap .i64 (v33 + 1))), (.int .i64 w2), (.int .i64 (IntKind.wrap .i64 (w3 - 1)))] S31 fun v38 S37 =>
 l1_1_0 w0a w0l w0c w1 v33 (IntKind.wrap .i64 (w3 - 1)) (decide ((IntKind.wrap .i64 (w2 - v33)) ≥ (IntKind.wrap .i64 (Int.tdiv (IntKind.wrap .i64 (w2 - w1)) 8)))) v34 S37)))) (
 cond (decide (w1 > 0)) (
 ixSl 1 w0a w0l (IntKind.wrap .i64 (w1 - 1)) fun p39 =>
 ldS S11 p39.1 p39.2 fun v40 =>
 ixSl 1 w0a w0l (IntKind.wrap .i64 ((IntKind.wrap .i64 (w2 - 1)) - (IntKind.wrap .i64 (v9 - w1)))) fun p41 =>
 ldS S11 p41.1 p41.2 fun v42 =>
 callB call 76 [(.str v40), (.str v42)] S11 fun v44 S43 =>
 cond (!v44) (
 callI .i64 call 77 [(.sl w0a w0l w0c), (.int .i64 w1), (.int .i64 w2), (.int .i64 (IntKind.wrap .i64 ((IntKind.wrap .i64 (w2 - 1)) - (IntKind.wrap .i64 (v9 - w1)))))] S43 fun v46 S45 =>
 l1_1_0 w0a w0l w0c v46 w2 (IntKind.wrap .i64 (w3 - 1)) w8 w9 S45) (
 callT call 78 [(.sl w0a w0l w0c), (.int .i64 w1), (.int .i64 w2), (.int .i64 (IntKind.wrap .i64 ((IntKind.wrap .i64 (w2 - 1)) - (IntKind.wrap .i64 (v9 - w1)))))] S43 fun v48 S47 =>
 atI .i64 v48 0 fun v49 =>
 atB v48 1 fun v50 =>
 cond (decide ((IntKind.wrap .i64 (v49 - w1)) < (IntKind.wrap .i64 (w2 - v49)))) (
 callT call 58 [(.sl w0a w0l w0c), (.int .i64 w1), (.int .i64 v49), (.int .i64 (IntKind.wrap .i64 (w3 - 1)))] S47 fun v52 S51 =>
 l1_1_0 w0a w0l w0c (IntKind.wrap .i64 (v49 + 1)) w2 (IntKind.wrap .i64 (w3 - 1)) (decide ((IntKind.wrap .i64 (v49 - w1)) ≥ (IntKind.wrap .i64 (Int.tdiv (IntKind.wrap .i64 (w2 - w1)) 8)))) v50 S51) (
 callT call 58 [(.sl w0a w0l w0c), (.int .i64 (IntKind.wrap .i64 (v49 + 1))), (.int .i64 w2), (.int .i64 (IntKind.wrap .i64 (w3 - 1)))] S47 fun v54 S53 =>
 l1_1_0 w0a w0l w0c w1 v49 (IntKind.wrap .i64 (w3 - 1)) (decide ((IntKind.wrap .i64 (w2 - v49)) ≥ (IntKind.wrap .i64 (Int.tdiv (IntKind.wrap .i64 (w2 - w1)) 8)))) v50 S53))) (
 callT call 78 [(.sl w0a w0l w0c), (.int .i64 w1), (.int .i64 w2), (.int .i64 (IntKind.wrap .i64 ((IntKind.wrap .i64 (w2 - 1)) - (IntKind.wrap .i64 (v9 - w1)))))] S11 fun v56 S55 =>
 atI .i64 v56 0 fun v57 =>
 atB v56 1 fun v58 =>
 cond (decide ((IntKind.wrap .i64 (v57 - w1)) < (IntKind.wrap .i64 (w2 - v57)))) (
 callT call 58 [(.sl w0a w0l w0c), (.int .i64 w1), (.int .i64 v57), (.int .i64 (IntKind.wrap .i64 (w3 - 1)))] S55 fun v60 S59 =>
 l1_1_0 w0a w0l w0c (IntKind.wrap .i64 (v57 + 1)) w2 (IntKind.wrap .i64 (w3 - 1)) (decide ((IntKind.wrap .i64 (v57 - w1)) ≥ (IntKind.wrap .i64 (Int.tdiv (IntKind.wrap .i64 (w2 - w1)) 8)))) v58 S59) (
 callT call 58 [(.sl w0a w0l w0c), (.int .i64 (IntKind.wrap .i64 (v57 + 1))), (.int .i64 w2), (.int .i64 (IntKind.wrap .i64 (w3 - 1)))] S55 fun v62 S61 =>
 l1_1_0 w0a w0l w0c w1 v57 (IntKind.wrap .i64 (w3 - 1)) (decide ((IntKind.wrap .i64 (w2 - v57)) ≥ (IntKind.wrap .i64 (Int.tdiv (IntKind.wrap .i64 (w2 - w1)) 8)))) v58 S61)))) (
 cond (decide (w1 > 0)) (
 ixSl 1 w0a w0l (IntKind.wrap .i64 (w1 - 1)) fun p63 =>
 ldS S11 p63.1 p63.2 fun v64 =>
 ixSl 1 w0a w0l (IntKind.wrap .i64 ((IntKind.wrap .i64 (w2 - 1)) - (IntKind.wrap .i64 (v9 - w1)))) fun p65 =>
 ldS S11 p65.1 p65.2 fun v66 =>
 callB call 76 [(.str v64), (.str v66)] S11 fun v68 S67 =>
 cond (!v68) (
 callI .i64 call 77 [(.sl w0a w0l w0c), (.int .i64 w1), (.int .i64 w2), (.int .i64 (IntKind.wrap .i64 ((IntKind.wrap .i64 (w2 - 1)) - (IntKind.wrap .i64 (v9 - w1)))))] S67 fun v70 S69 =>
 l1_1_0 w0a w0l w0c v70 w2 (IntKind.wrap .i64 (w3 - 1)) w8 w9 S69) (
 callT call 78 [(.sl w0a w0l w0c), (.int .i64 w1), (.int .i64 w2), (.int .i64 (IntKind.wrap .i64 ((IntKind.wrap .i64 (w2 - 1)) - (IntKind.wrap .i64 (v9 - w1)))))] S67 fun v72 S71 =>
 atI .i64 v72 0 fun v73 =>
 atB v72 1 fun v74 =>
 cond (decide ((IntKind.wrap .i64 (v73 - w1)) < (IntKind.wrap .i64 (w2 - v73)))) (
 callT call 58 [(.sl w0a w0l w0c), (.int .i64 w1), (.int .i64 v73), (.int .i64 (IntKind.wrap .i64 (w3 - 1)))] S71 fun v76 S75 =>
 l1_1_0 w0a w0l w0c (IntKind.wrap .i64 (v73 + 1)) w2 (IntKind.wrap .i64 (w3 - 1)) (decide ((IntKind.wrap .i64 (v73 - w1)) ≥ (IntKind.wrap .i64 (Int.tdiv (IntKind.wrap .i64 (w2 - w1)) 8)))) v74 S75) (
 callT call 58 [(.sl w0a w0l w0c), (.int .i64 (IntKind.wrap .i64 (v73 + 1))), (.int .i64 w2), (.int .i64 (IntKind.wrap .i64 (w3 - 1)))] S71 fun v78 S77 =>
 l1_1_0 w0a w0l w0c w1 v73 (IntKind.wrap .i64 (w3 - 1)) (decide ((IntKind.wrap .i64 (w2 - v73)) ≥ (IntKind.wrap .i64 (Int.tdiv (IntKind.wrap .i64 (w2 - w1)) 8)))) v74 S77))) (
 callT call 78 [(.sl w0a w0l w0c), (.int .i64 w1), (.int .i64 w2), (.int .i64 (IntKind.wrap .i64 ((IntKind.wrap .i64 (w2 - 1)) - (IntKind.wrap .i64 (v9 - w1)))))] S11 fun v80 S79 =>
 atI .i64 v80 0 fun v81 =>
 atB v80 1 fun v82 =>
 cond (decide ((IntKind.wrap .i64 (v81 - w1)) < (IntKind.wrap .i64 (w2 - v81)))) (
 callT call 58 [(.sl w0a w0l w0c), (.int .i64 w1), (.int .i64 v81), (.int .i64 (IntKind.wrap .i64 (w3 - 1)))] S79 fun v84 S83 =>
 l1_1_0 w0a w0l w0c (IntKind.wrap .i64 (v81 + 1)) w2 (IntKind.wrap .i64 (w3 - 1)) (decide ((IntKind.wrap .i64 (v81 - w1)) ≥ (IntKind.wrap .i64 (Int.tdiv (IntKind.wrap .i64 (w2 - w1)) 8)))) v82 S83) (
 callT call 58 [(.sl w0a w0l w0c), (.int .i64 (IntKind.wrap .i64 (v81 + 1))), (.int .i64 w2), (.int .i64 (IntKind.wrap .i64 (w3 - 1)))] S79 fun v86 S85 =>
 l1_1_0 w0a w0l w0c w1 v81 (IntKind.wrap .i64 (w3 - 1)) (decide ((IntKind.wrap .i64 (w2 - v81)) ≥ (IntKind.wrap .i64 (Int.tdiv (IntKind.wrap .i64 (w2 - w1)) 8)))) v82 S85)))) (
 cond (decide (w1 > 0)) (
 ixSl 1 w0a w0l (IntKind.wrap .i64 (w1 - 1)) fun p87 =>
 ldS S11 p87.1 p87.2 fun v88 =>
 ixSl 1 w0a w0l (IntKind.wrap .i64 ((IntKind.wrap .i64 (w2 - 1)) - (IntKind.wrap .i64 (v9 - w1)))) fun p89 =>
 ldS S11 p89.1 p89.2 fun v90 =>
 callB call 76 [(.str v88), (.str v90)] S11 fun v92 S91 =>
 cond (!v92) (
 callI .i64 call 77 [(.sl w0a w0l w0c), (.int .i64 w1), (.int .i64 w2), (.int .i64 (IntKind.wrap .i64 ((IntKind.wrap .i64 (w2 - 1)) - (IntKind.wrap .i64 (v9 - w1)))))] S91 fun v94 S93 =>
 l1_1_0 w0a w0l w0c v94 w2 (IntKind.wrap .i64 (w3 - 1)) w8 w9 S93) (
 callT call 78 [(.sl w0a w0l w0c), (.int .i64 w1), (.int .i64 w2), (.int .i64 (IntKind.wrap .i64 ((IntKind.wrap .i64 (w2 - 1)) - (IntKind.wrap .i64 (v9 - w1)))))] S91 fun v96 S95 =>
 atI .i64 v96 0 fun v97 =>
 atB v96 1 fun v98 =>
 cond (decide ((IntKind.wrap .i64 (v97 - w1)) < (IntKind.wrap .i64 (w2 - v97)))) (
 callT call 58 [(.sl w0a w0l w0c), (.int .i64 w1), (.int .i64 v97), (.int .i64 (IntKind.wrap .i64 (w3 - 1)))] S95 fun v100 S99 =>
 l1_1_0 w0a w0l w0c (IntKind.wrap .i64 (v97 + 1)) w2 (IntKind.wrap .i64 (w3 - 1)) (decide ((IntKind.wrap .i64 (v97 - w1)) ≥ (IntKind.wrap .i64 (Int.tdiv (IntKind.wrap .i64 (w2 - w1)) 8)))) v98 S99) (
 callT call 58 [(.sl w0a w0l w0c), (.int .i64 (IntKind.wrap .i64 (v97 + 1))), (.int .i64 w2), (.int .i64 (IntKind.wrap .i64 (w3 - 1)))] S95 fun v102 S101 =>
 l1_1_0 w0a w0l w0c w1 v97 (IntKind.wrap .i64 (w3 - 1)) (decide ((IntKind.wrap .i64 (w2 - v97)) ≥ (IntKind.wrap .i64 (Int.tdiv (IntKind.wrap .i64 (w2 - w1)) 8)))) v98 S101))) (
 callT call 78 [(.sl w0a w0l w0c), (.int .i64 w1), (.int .i64 w2), (.int .i64 (IntKind.wrap .i64 ((IntKind.wrap .i64 (w2 - 1)) - (IntKind.wrap .i64 (v9 - w1)))))] S11 fun v104 S103 =>
 atI .i64 v104 0 fun v105 =>
 atB v104 1 fun v106 =>
 cond (decide ((IntKind.wrap .i64 (v105 - w1)) < (IntKind.wrap .i64 (w2 - v105)))) (
 callT call 58 [(.sl w0a w0l w0c), (.int .i64 w1), (.int .i64 v105), (.int .i64 (IntKind.wrap .i64 (w3 - 1)))] S103 fun v108 S107 =>
 l1_1_0 w0a w0l w0c (IntKind.wrap .i64 (v105 + 1)) w2 (IntKind.wrap .i64 (w3 - 1)) (decide ((IntKind.wrap .i64 (v105 - w1)) ≥ (IntKind.wrap .i64 (Int.tdiv (IntKind.wrap .i64 (w2 - w1)) 8)))) v106 S107) (
 callT call 58 [(.sl w0a w0l w0c), (.int .i64 (IntKind.wrap .i64 (v105 + 1))), (.int .i64 w2), (.int .i64 (IntKind.wrap .i64 (w3 - 1)))] S103 fun v110 S109 =>
 l1_1_0 w0a w0l w0c w1 v105 (IntKind.wrap .i64 (w3 - 1)) (decide ((IntKind.wrap .i64 (w2 - v105)) ≥ (IntKind.wrap .i64 (Int.tdiv (IntKind.wrap .i64 (w2 - w1)) 8)))) v106 S109)))) (
 cond w8 (
 cond w9 (
 cond (v10 == 1) (
 callB call 75 [(.sl w0a w0l w0c), (.int .i64 w1), (.int .i64 w2)] S7 fun v112 S111 =>
 cond v112 (
 some (.tup [], S111)) (
 cond (decide (w1 > 0)) (
 ixSl 1 w0a w0l (IntKind.wrap .i64 (w1 - 1)) fun p113 =>
 ldS S111 p113.1 p113.2 fun v114 =>
 ixSl 1 w0a w0l v9 fun p115 =>
 ldS S111 p115.1 p115.2 fun v116 =>
 callB call 76 [(.str v114), (.str v116)] S111 fun v118 S117 =>
 cond (!v118) (
 callI .i64 call 77 [(.sl w0a w0l w0c), (.int .i64 w1), (.int .i64 w2), (.int .i64 v9)] S117 fun v120 S119 =>
 l1_1_0 w0a w0l w0c v120 w2 (IntKind.wrap .i64 (w3 - 1)) w8 w9 S119) (
 callT call 78 [(.sl w0a w0l w0c), (.int .i64 w1), (.int .i64 w2), (.int .i64 v9)] S117 fun v122 S121 =>
 atI .i64 v122 0 fun v123 =>
 atB v122 1 fun v124 =>
 cond (decide ((IntKind.wrap .i64 (v123 - w1)) < (IntKind.wrap .i64 (w2 - v123)))) (
 callT call 58 [(.sl w0a w0l w0c), (.int .i64 w1), (.int .i64 v123), (.int .i64 (IntKind.wrap .i64 (w3 - 1)))] S121 fun v126 S125 =>
 l1_1_0 w0a w0l w0c (IntKind.wrap .i64 (v123 + 1)) w2 (IntKind.wrap .i64 (w3 - 1)) (decide ((IntKind.wrap .i64 (v123 - w1)) ≥ (IntKind.wrap .i64 (Int.tdiv (IntKind.wrap .i64 (w2 - w1)) 8)))) v124 S125) (
 callT call 58 [(.sl w0a w0l w0c), (.int .i64 (IntKind.wrap .i64 (v123 + 1))), (.int .i64 w2), (.int .i64 (IntKind.wrap .i64 (w3 - 1)))] S121 fun v128 S127 =>
 l1_1_0 w0a w0l w0c w1 v123 (IntKind.wrap .i64 (w3 - 1)) (decide ((IntKind.wrap .i64 (w2 - v123)) ≥ (IntKind.wrap .i64 (Int.tdiv (IntKind.wrap .i64 (w2 - w1)) 8)))) v124 S127))) (
 callT call 78 [(.sl w0a w0l w0c), (.int .i64 w1), (.int .i64 w2), (.int .i64 v9)] S111 fun v130 S129 =>
 atI .i64 v130 0 fun v131 =>
 atB v130 1 fun v132 =>
 cond (decide ((IntKind.wrap .i64 (v131 - w1)) < (IntKind.wrap .i64 (w2 - v131)))) (
 callT call 58 [(.sl w0a w0l w0c), (.int .i64 w1), (.int .i64 v131), (.int .i64 (IntKind.wrap .i64 (w3 - 1)))] S129 fun v134 S133 =>
 l1_1_0 w0a w0l w0c (IntKind.wrap .i64 (v131 + 1)) w2 (IntKind.wrap .i64 (w3 - 1)) (decide ((IntKind.wrap .i64 (v131 - w1)) ≥ (IntKind.wrap .i64 (Int.tdiv (IntKind.wrap .i64 (w2 - w1)) 8)))) v132 S133) (
 callT call 58 [(.sl w0a w0l w0c), (.int .i64 (IntKind.wrap .i64 (v131 + 1))), (.int .i64 w2), (.int .i64 (IntKind.wrap .i64 (w3 - 1)))] S129 fun v136 S135 =>
 l1_1_0 w0a w0l w0c w1 v131 (IntKind.wrap .i64 (w3 - 1)) (decide ((IntKind.wrap .i64 (w2 - v131)) ≥ (IntKind.wrap .i64 (Int.tdiv (IntKind.wrap .i64 (w2 - w1)) 8)))) v132 S135)))) (
 cond (decide (w1 > 0)) (
 ixSl 1 w0a w0l (IntKind.wrap .i64 (w1 - 1)) fun p137 =>
 ldS S7 p137.1 p137.2 fun v138 =>
 ixSl 1 w0a w0l v9 fun p139 =>
 ldS S7 p139.1 p139.2 fun v140 =>
 callB call 76 [(.str v138), (.str v140)] S7 fun v142 S141 =>
 cond (!v142) (
 callI .i64 call 77 [(.sl w0a w0l w0c), (.int .i64 w1), (.int .i64 w2), (.int .i64 v9)] S141 fun v144 S143 =>
 l1_1_0 w0a w0l w0c v144 w2 (IntKind.wrap .i64 (w3 - 1)) w8 w9 S143) (
 callT call 78 [(.sl w0a w0l w0c), (.int .i64 w1), (.int .i64 w2), (.int .i64 v9)] S141 fun v146 S145 =>
 atI .i64 v146 0 fun v147 =>
 atB v146 1 fun v148 =>
 cond (decide ((IntKind.wrap .i64 (v147 - w1)) < (IntKind.wrap .i64 (w2 - v147)))) (
 callT call 58 [(.sl w0a w0l w0c), (.int .i64 w1), (.int .i64 v147), (.int .i64 (IntKind.wrap .i64 (w3 - 1)))] S145 fun v150 S149 =>
 l1_1_0 w0a w0l w0c (IntKind.wrap .i64 (v147 + 1)) w2 (IntKind.wrap .i64 (w3 - 1)) (decide ((IntKind.wrap .i64 (v147 - w1)) ≥ (IntKind.wrap .i64 (Int.tdiv (IntKind.wrap .i64 (w2 - w1)) 8)))) v148 S149) (
 callT call 58 [(.sl w0a w0l w0c), (.int .i64 (IntKind.wrap .i64 (v147 + 1))), (.int .i64 w2), (.int .i64 (IntKind.wrap .i64 (w3 - 1)))] S145 fun v152 S151 =>
 l1_1_0 w0a w0l w0c w1 v147 (IntKind.wrap .i64 (w3 - 1)) (decide ((IntKind.wrap .i64 (w2 - v147)) ≥ (IntKind.wrap .i64 (Int.tdiv (IntKind.wrap .i64 (w2 - w1)) 8)))) v148 S151))) (
 callT call 78 [(.sl w0a w0l w0c), (.int .i64 w1), (.int .i64 w2), (.int .i64 v9)] S7 fun v154 S153 =>
 atI .i64 v154 0 fun v155 =>
 atB v154 1 fun v156 =>
 cond (decide ((IntKind.wrap .i64 (v155 - w1)) < (IntKind.wrap .i64 (w2 - v155)))) (
 callT call 58 [(.sl w0a w0l w0c), (.int .i64 w1), (.int .i64 v155), (.int .i64 (IntKind.wrap .i64 (w3 - 1)))] S153 fun v158 S157 =>
 l1_1_0 w0a w0l w0c (IntKind.wrap .i64 (v155 + 1)) w2 (IntKind.wrap .i64 (w3 - 1)) (decide ((IntKind.wrap .i64 (v155 - w1)) ≥ (IntKind.wrap .i64 (Int.tdiv (IntKind.wrap .i64 (w2 - w1)) 8)))) v156 S157) (
 callT call 58 [(.sl w0a w0l w0c), (.int .i64 (IntKind.wrap .i64 (v155 + 1))), (.int .i64 w2), (.int .i64 (IntKind.wrap .i64 (w3 - 1)))] S153 fun v160 S159 =>
 l1_1_0 w0a w0l w0c w1 v155 (IntKind.wrap .i64 (w3 - 1)) (decide ((IntKind.wrap .i64 (w2 - v155)) ≥ (IntKind.wrap .i64 (Int.tdiv (IntKind.wrap .i64 (w2 - w1)) 8)))) v156 S159)))) (
 cond (decide (w1 > 0)) (
 ixSl 1 w0a w0l (IntKind.wrap .i64 (w1 - 1)) fun p161 =>
 ldS S7 p161.1 p161.2 fun v162 =>
 ixSl 1 w0a w0l v9 fun p163 =>
 ldS S7 p163.1 p163.2 fun v164 =>
 callB call 76 [(.str v162), (.str v164)] S7 fun v166 S165 =>
 cond (!v166) (
 callI .i64 call 77 [(.sl w0a w0l w0c), (.int .i64 w1), (.int .i64 w2), (.int .i64 v9)] S165 fun v168 S167 =>
 l1_1_0 w0a w0l w0c v168 w2 (IntKind.wrap .i64 (w3 - 1)) w8 w9 S167) (
 callT call 78 [(.sl w0a w0l w0c), (.int .i64 w1), (.int .i64 w2), (.int .i64 v9)] S165 fun v170 S169 =>
 atI .i64 v170 0 fun v171 =>
 atB v170 1 fun v172 =>
 cond (decide ((IntKind.wrap .i64 (v171 - w1)) < (IntKind.wrap .i64 (w2 - v171)))) (
 callT call 58 [(.sl w0a w0l w0c), (.int .i64 w1), (.int .i64 v171), (.int .i64 (IntKind.wrap .i64 (w3 - 1)))] S169 fun v174 S173 =>
 l1_1_0 w0a w0l w0c (IntKind.wrap .i64 (v171 + 1)) w2 (IntKind.wrap .i64 (w3 - 1)) (decide ((IntKind.wrap .i64 (v171 - w1)) ≥ (IntKind.wrap .i64 (Int.tdiv (IntKind.wrap .i64 (w2 - w1)) 8)))) v172 S173) (
 callT call 58 [(.sl w0a w0l w0c), (.int .i64 (IntKind.wrap .i64 (v171 + 1))), (.int .i64 w2), (.int .i64 (IntKind.wrap .i64 (w3 - 1)))] S169 fun v176 S175 =>
 l1_1_0 w0a w0l w0c w1 v171 (IntKind.wrap .i64 (w3 - 1)) (decide ((IntKind.wrap .i64 (w2 - v171)) ≥ (IntKind.wrap .i64 (Int.tdiv (IntKind.wrap .i64 (w2 - w1)) 8)))) v172 S175))) (
 callT call 78 [(.sl w0a w0l w0c), (.int .i64 w1), (.int .i64 w2), (.int .i64 v9)] S7 fun v178 S177 =>
 atI .i64 v178 0 fun v179 =>
 atB v178 1 fun v180 =>
 cond (decide ((IntKind.wrap .i64 (v179 - w1)) < (IntKind.wrap .i64 (w2 - v179)))) (
 callT call 58 [(.sl w0a w0l w0c), (.int .i64 w1), (.int .i64 v179), (.int .i64 (IntKind.wrap .i64 (w3 - 1)))] S177 fun v182 S181 =>
 l1_1_0 w0a w0l w0c (IntKind.wrap .i64 (v179 + 1)) w2 (IntKind.wrap .i64 (w3 - 1)) (decide ((IntKind.wrap .i64 (v179 - w1)) ≥ (IntKind.wrap .i64 (Int.tdiv (IntKind.wrap .i64 (w2 - w1)) 8)))) v180 S181) (
 callT call 58 [(.sl w0a w0l w0c), (.int .i64 (IntKind.wrap .i64 (v179 + 1))), (.int .i64 w2), (.int .i64 (IntKind.wrap .i64 (w3 - 1)))] S177 fun v184 S183 =>
 l1_1_0 w0a w0l w0c w1 v179 (IntKind.wrap .i64 (w3 - 1)) (decide ((IntKind.wrap .i64 (w2 - v179)) ≥ (IntKind.wrap .i64 (Int.tdiv (IntKind.wrap .i64 (w2 - w1)) 8)))) v180 S183)))) (
 cond (decide (w1 > 0)) (
 ixSl 1 w0a w0l (IntKind.wrap .i64 (w1 - 1)) fun p185 =>
 ldS S7 p185.1 p185.2 fun v186 =>
 ixSl 1 w0a w0l v9 fun p187 =>
 ldS S7 p187.1 p187.2 fun v188 =>
 callB call 76 [(.str v186), (.str v188)] S7 fun v190 S189 =>
 cond (!v190) (
 callI .i64 call 77 [(.sl w0a w0l w0c), (.int .i64 w1), (.int .i64 w2), (.int .i64 v9)] S189 fun v192 S191 =>
 l1_1_0 w0a w0l w0c v192 w2 (IntKind.wrap .i64 (w3 - 1)) w8 w9 S191) (
 callT call 78 [(.sl w0a w0l w0c), (.int .i64 w1), (.int .i64 w2), (.int .i64 v9)] S189 fun v194 S193 =>
 atI .i64 v194 0 fun v195 =>
 atB v194 1 fun v196 =>
 cond (decide ((IntKind.wrap .i64 (v195 - w1)) < (IntKind.wrap .i64 (w2 - v195)))) (
 callT call 58 [(.sl w0a w0l w0c), (.int .i64 w1), (.int .i64 v195), (.int .i64 (IntKind.wrap .i64 (w3 - 1)))] S193 fun v198 S197 =>
 l1_1_0 w0a w0l w0c (IntKind.wrap .i64 (v195 + 1)) w2 (IntKind.wrap .i64 (w3 - 1)) (decide ((IntKind.wrap .i64 (v195 - w1)) ≥ (IntKind.wrap .i64 (Int.tdiv (IntKind.wrap .i64 (w2 - w1)) 8)))) v196 S197) (
 callT call 58 [(.sl w0a w0l w0c), (.int .i64 (IntKind.wrap .i64 (v195 + 1))), (.int .i64 w2), (.int .i64 (IntKind.wrap .i64 (w3 - 1)))] S193 fun v200 S199 =>
 l1_1_0 w0a w0l w0c w1 v195 (IntKind.wrap .i64 (w3 - 1)) (decide ((IntKind.wrap .i64 (w2 - v195)) ≥ (IntKind.wrap .i64 (Int.tdiv (IntKind.wrap .i64 (w2 - w1)) 8)))) v196 S199))) (
 callT call 78 [(.sl w0a w0l w0c), (.int .i64 w1), (.int .i64 w2), (.int .i64 v9)] S7 fun v202 S201 =>
 atI .i64 v202 0 fun v203 =>
 atB v202 1 fun v204 =>
 cond (decide ((IntKind.wrap .i64 (v203 - w1)) < (IntKind.wrap .i64 (w2 - v203)))) (
 callT call 58 [(.sl w0a w0l w0c), (.int .i64 w1), (.int .i64 v203), (.int .i64 (IntKind.wrap .i64 (w3 - 1)))] S201 fun v206 S205 =>
 l1_1_0 w0a w0l w0c (IntKind.wrap .i64 (v203 + 1)) w2 (IntKind.wrap .i64 (w3 - 1)) (decide ((IntKind.wrap .i64 (v203 - w1)) ≥ (IntKind.wrap .i64 (Int.tdiv (IntKind.wrap .i64 (w2 - w1)) 8)))) v204 S205) (
 callT call 58 [(.sl w0a w0l w0c), (.int .i64 (IntKind.wrap .i64 (v203 + 1))), (.int .i64 w2), (.int .i64 (IntKind.wrap .i64 (w3 - 1)))] S201 fun v208 S207 =>
 l1_1_0 w0a w0l w0c w1 v203 (IntKind.wrap .i64 (w3 - 1)) (decide ((IntKind.wrap .i64 (w2 - v203)) ≥ (IntKind.wrap .i64 (Int.tdiv (IntKind.wrap .i64 (w2 - w1)) 8)))) v204 S207))))) (
 callT call 73 [(.sl w0a w0l w0c), (.int .i64 w1), (.int .i64 w2)] S fun v210 S209 =>
 atI .i64 v210 0 fun v211 =>
 atI .i64 v210 1 fun v212 =>
 cond (v212 == 2) (
 callT call 74 [(.sl w0a w0l w0c), (.int .i64 w1), (.int .i64 w2)] S209 fun v214 S213 =>
 cond w8 (
 cond w9 (
 cond (1 == 1) (
 callB call 75 [(.sl w0a w0l w0c), (.int .i64 w1), (.int .i64 w2)] S213 fun v216 S215 =>
 cond v216 (
 some (.tup [], S215)) (
 cond (decide (w1 > 0)) (
 ixSl 1 w0a w0l (IntKind.wrap .i64 (w1 - 1)) fun p217 =>
 ldS S215 p217.1 p217.2 fun v218 =>
 ixSl 1 w0a w0l (IntKind.wrap .i64 ((IntKind.wrap .i64 (w2 - 1)) - (IntKind.wrap .i64 (v211 - w1)))) fun p219 =>
 ldS S215 p219.1 p219.2 fun v220 =>
 callB call 76 [(.str v218), (.str v220)] S215 fun v222 S221 =>
 cond (!v222) (
 callI .i64 call 77 [(.sl w0a w0l w0c), (.int .i64 w1), (.int .i64 w2), (.int .i64 (IntKind.wrap .i64 ((IntKind.wrap .i64 (w2 - 1)) - (IntKind.wrap .i64 (v211 - w1)))))] S221 fun v224 S223 =>
 l1_1_0 w0a w0l w0c v224 w2 w3 w8 w9 S223) (
 callT call 78 [(.sl w0a w0l w0c), (.int .i64 w1), (.int .i64 w2), (.int .i64 (IntKind.wrap .i64 ((IntKind.wrap .i64 (w2 - 1)) - (IntKind.wrap .i64 (v211 - w1)))))] S221 fun v226 S225 =>
 atI .i64 v226 0 fun v227 =>
 atB v226 1 fun v228 =>
 cond (decide ((IntKind.wrap .i64 (v227 - w1)) < (IntKind.wrap .i64 (w2 - v227)))) (
 callT call 58 [(.sl w0a w0l w0c), (.int .i64 w1), (.int .i64 v227), (.int .i64 w3)] S225 fun v230 S229 =>
 l1_1_0 w0a w0l w0c (IntKind.wrap .i64 (v227 + 1)) w2 w3 (decide ((IntKind.wrap .i64 (v227 - w1)) ≥ (IntKind.wrap .i64 (Int.tdiv (IntKind.wrap .i64 (w2 - w1)) 8)))) v228 S229) (
 callT call 58 [(.sl w0a w0l w0c), (.int .i64 (IntKind.wrap .i64 (v227 + 1))), (.int .i64 w2), (.int .i64 w3)] S225 fun v232 S231 =>
 l1_1_0 w0a w0l w0c w1 v227 w3 (decide ((IntKind.wrap .i64 (w2 - v227)) ≥ (IntKind.wrap .i64 (Int.tdiv (IntKind.wrap .i64 (w2 - w1)) 8)))) v228 S231))) (
 callT call 78 [(.sl w0a w0l w0c), (.int .i64 w1), (.int .i64 w2), (.int .i64 (IntKind.wrap .i64 ((IntKind.wrap .i64 (w2 - 1)) - (IntKind.wrap .i64 (v211 - w1)))))] S215 fun v234 S233 =>
 atI .i64 v234 0 fun v235 =>
 atB v234 1 fun v236 =>
 cond (decide ((IntKind.wrap .i64 (v235 - w1)) < (IntKind.wrap .i64 (w2 - v235)))) (
 callT call 58 [(.sl w0a w0l w0c), (.int .i64 w1), (.int .i64 v235), (.int .i64 w3)] S233 fun v238 S237 =>
 l1_1_0 w0a w0l w0c (IntKind.wrap .i64 (v235 + 1)) w2 w3 (decide ((IntKind.wrap .i64 (v235 - w1)) ≥ (IntKind.wrap .i64 (Int.tdiv (IntKind.wrap .i64 (w2 - w1)) 8)))) v236 S237) (
 callT call 58 [(.sl w0a w0l w0c), (.int .i64 (IntKind.wrap .i64 (v235 + 1))), (.int .i64 w2), (.int .i64 w3)] S233 fun v240 S239 =>
 l1_1_0 w0a w0l w0c w1 v235 w3 (decide ((IntKind.wrap .i64 (w2 - v235)) ≥ (IntKind.wrap .i64 (Int.tdiv (IntKind.wrap .i64 (w2 - w1)) 8)))) v236 S239)))) (
 cond (decide (w1 > 0)) (
 ixSl 1 w0a w0l (IntKind.wrap .i64 (w1 - 1)) fun p241 =>
 ldS S213 p241.1 p241.2 fun v242 =>
 ixSl 1 w0a w0l (IntKind.wrap .i64 ((IntKind.wrap .i64 (w2 - 1)) - (IntKind.wrap .i64 (v211 - w1)))) fun p243 =>
 ldS S213 p243.1 p243.2 fun v244 =>
 callB call 76 [(.str v242), (.str v244)] S213 fun v246 S245 =>
 cond (!v246) (
 callI .i64 call 77 [(.sl w0a w0l w0c), (.int .i64 w1), (.int .i64 w2), (.int .i64 (IntKind.wrap .i64 ((IntKind.wrap .i64 (w2 - 1)) - (IntKind.wrap .i64 (v211 - w1)))))] S245 fun v248 S247 =>
 l1_1_0 w0a w0l w0c v248 w2 w3 w8 w9 S247) (
 callT call 78 [(.sl w0a w0l w0c), (.int .i64 w1), (.int .i64 w2), (.int .i64 (IntKind.wrap .i64 ((IntKind.wrap .i64 (w2 - 1)) - (IntKind.wrap .i64 (v211 - w1)))))] S245 fun v250 S249 =>
 atI .i64 v250 0 fun v251 =>
 atB v250 1 fun v252 =>
 cond (decide ((IntKind.wrap .i64 (v251 - w1)) < (IntKind.wrap .i64 (w2 - v251)))) (
 callT call 58 [(.sl w0a w0l w0c), (.int .i64 w1), (.int .i64 v251), (.int .i64 w3)] S249 fun v254 S253 =>
 l1_1_0 w0a w0l w0c (IntKind.wrap .i64 (v251 + 1)) w2 w3 (decide ((IntKind.wrap .i64 (v251 - w1)) ≥ (IntKind.wrap .i64 (Int.tdiv (IntKind.wrap .i64 (w2 - w1)) 8)))) v252 S253) (
 callT call 58 [(.sl w0a w0l w0c), (.int .i64 (IntKind.wrap .i64 (v251 + 1))), (.int .i64 w2), (.int .i64 w3)] S249 fun v256 S255 =>
 l1_1_0 w0a w0l w0c w1 v251 w3 (decide ((IntKind.wrap .i64 (w2 - v251)) ≥ (IntKind.wrap .i64 (Int.tdiv (IntKind.wrap .i64 (w2 - w1)) 8)))) v252 S255))) (
 callT call 78 [(.sl w0a w0l w0c), (.int .i64 w1), (.int .i64 w2), (.int .i64 (IntKind.wrap .i64 ((IntKind.wrap .i64 (w2 - 1)) - (IntKind.wrap .i64 (v211 - w1)))))] S213 fun v258 S257 =>
 atI .i64 v258 0 fun v259 =>
 atB v258 1 fun v260 =>
 cond (decide ((IntKind.wrap .i64 (v259 - w1)) < (IntKind.wrap .i64 (w2 - v259)))) (
 callT call 58 [(.sl w0a w0l w0c), (.int .i64 w1), (.int .i64 v259), (.int .i64 w3)] S257 fun v262 S261 =>
 l1_1_0 w0a w0l w0c (IntKind.wrap .i64 (v259 + 1)) w2 w3 (decide ((IntKind.wrap .i64 (v259 - w1)) ≥ (IntKind.wrap .i64 (Int.tdiv (IntKind.wrap .i64 (w2 - w1)) 8)))) v260 S261) (
 callT call 58 [(.sl w0a w0l w0c), (.int .i64 (IntKind.wrap .i64 (v259 + 1))), (.int .i64 w2), (.int .i64 w3)] S257 fun v264 S263 =>
 l1_1_0 w0a w0l w0c w1 v259 w3 (decide ((IntKind.wrap .i64 (w2 - v259)) ≥ (IntKind.wrap .i64 (Int.tdiv (IntKind.wrap .i64 (w2 - w1)) 8)))) v260 S263)))) (
 cond (decide (w1 > 0)) (
 ixSl 1 w0a w0l (IntKind.wrap .i64 (w1 - 1)) fun p265 =>
 ldS S213 p265.1 p265.2 fun v266 =>
 ixSl 1 w0a w0l (IntKind.wrap .i64 ((IntKind.wrap .i64 (w2 - 1)) - (IntKind.wrap .i64 (v211 - w1)))) fun p267 =>
 ldS S213 p267.1 p267.2 fun v268 =>
 callB call 76 [(.str v266), (.str v268)] S213 fun v270 S269 =>
 cond (!v270) (
 callI .i64 call 77 [(.sl w0a w0l w0c), (.int .i64 w1), (.int .i64 w2), (.int .i64 (IntKind.wrap .i64 ((IntKind.wrap .i64 (w2 - 1)) - (IntKind.wrap .i64 (v211 - w1)))))] S269 fun v272 S271 =>
 l1_1_0 w0a w0l w0c v272 w2 w3 w8 w9 S271) (
 callT call 78 [(.sl w0a w0l w0c), (.int .i64 w1), (.int .i64 w2), (.int .i64 (IntKind.wrap .i64 ((IntKind.wrap .i64 (w2 - 1)) - (IntKind.wrap .i64 (v211 - w1)))))] S269 fun v274 S273 =>
 atI .i64 v274 0 fun v275 =>
 atB v274 1 fun v276 =>
 cond (decide ((IntKind.wrap .i64 (v275 - w1)) < (IntKind.wrap .i64 (w2 - v275)))) (
 callT call 58 [(.sl w0a w0l w0c), (.int .i64 w1), (.int .i64 v275), (.int .i64 w3)] S273 fun v278 S277 =>
 l1_1_0 w0a w0l w0c (IntKind.wrap .i64 (v275 + 1)) w2 w3 (decide ((IntKind.wrap .i64 (v275 - w1)) ≥ (IntKind.wrap .i64 (Int.tdiv (IntKind.wrap .i64 (w2 - w1)) 8)))) v276 S277) (
 callT call 58 [(.sl w0a w0l w0c), (.int .i64 (IntKind.wrap .i64 (v275 + 1))), (.int .i64 w2), (.int .i64 w3)] S273 fun v280 S279 =>
 l1_1_0 w0a w0l w0c w1 v275 w3 (decide ((IntKind.wrap .i64 (w2 - v275)) ≥ (IntKind.wrap .i64 (Int.tdiv (IntKind.wrap .i64 (w2 - w1)) 8)))) v276 S279))) (
 callT call 78 [(.sl w0a w0l w0c), (.int .i64 w1), (.int .i64 w2), (.int .i64 (IntKind.wrap .i64 ((IntKind.wrap .i64 (w2 - 1)) - (IntKind.wrap .i64 (v211 - w1)))))] S213 fun v282 S281 =>
 atI .i64 v282 0 fun v283 =>
 atB v282 1 fun v284 =>
 cond (decide ((IntKind.wrap .i64 (v283 - w1)) < (IntKind.wrap .i64 (w2 - v283)))) (
 callT call 58 [(.sl w0a w0l w0c), (.int .i64 w1), (.int .i64 v283), (.int .i64 w3)] S281 fun v286 S285 =>
 l1_1_0 w0a w0l w0c (IntKind.wrap .i64 (v283 + 1)) w2 w3 (decide ((IntKind.wrap .i64 (v283 - w1)) ≥ (IntKind.wrap .i64 (Int.tdiv (IntKind.wrap .i64 (w2 - w1)) 8)))) v284 S285) (
 callT call 58 [(.sl w0a w0l w0c), (.int .i64 (IntKind.wrap .i64 (v283 + 1))), (.int .i64 w2), (.int .i64 w3)] S281 fun v288 S287 =>
 l1_1_0 w0a w0l w0c w1 v283 w3 (decide ((IntKind.wrap .i64 (w2 - v283)) ≥ (IntKind.wrap .i64 (Int.tdiv (IntKind.wrap .i64 (w2 - w1)) 8)))) v284 S287)))) (
 cond (decide (w1 > 0)) (
 ixSl 1 w0a w0l (IntKind.wrap .i64 (w1 - 1)) fun p289 =>
 ldS S213 p289.1 p289.2 fun v290 =>
 ixSl 1 w0a w0l (IntKind.wrap .i64 ((IntKind.wrap .i64 (w2 - 1)) - (IntKind.wrap .i64 (v211 - w1)))) fun p291 =>
 ldS S213 p291.1 p291.2 fun v292 =>
 callB call 76 [(.str v290), (.str v292)] S213 fun v294 S293 =>
 cond (!v294) (
 callI .i64 call 77 [(.sl w0a w0l w0c), (.int .i64 w1), (.int .i64 w2), (.int .i64 (IntKind.wrap .i64 ((IntKind.wrap .i64 (w2 - 1)) - (IntKind.wrap .i64 (v211 - w1)))))] S293 fun v296 S295 =>
 l1_1_0 w0a w0l w0c v296 w2 w3 w8 w9 S295) (
 callT call 78 [(.sl w0a w0l w0c), (.int .i64 w1), (.int .i64 w2), (.int .i64 (IntKind.wrap .i64 ((IntKind.wrap .i64 (w2 - 1)) - (IntKind.wrap .i64 (v211 - w1)))))] S293 fun v298 S297 =>
 atI .i64 v298 0 fun v299 =>
 atB v298 1 fun v300 =>
 cond (decide ((IntKind.wrap .i64 (v299 - w1)) < (IntKind.wrap .i64 (w2 - v299)))) (
 callT call 58 [(.sl w0a w0l w0c), (.int .i64 w1), (.int .i64 v299), (.int .i64 w3)] S297 fun v302 S301 =>
 l1_1_0 w0a w0l w0c (IntKind.wrap .i64 (v299 + 1)) w2 w3 (decide ((IntKind.wrap .i64 (v299 - w1)) ≥ (IntKind.wrap .i64 (Int.tdiv (IntKind.wrap .i64 (w2 - w1)) 8)))) v300 S301) (
 callT call 58 [(.sl w0a w0l w0c), (.int .i64 (IntKind.wrap .i64 (v299 + 1))), (.int .i64 w2), (.int .i64 w3)] S297 fun v304 S303 =>
 l1_1_0 w0a w0l w0c w1 v299 w3 (decide ((IntKind.wrap .i64 (w2 - v299)) ≥ (IntKind.wrap .i64 (Int.tdiv (IntKind.wrap .i64 (w2 - w1)) 8)))) v300 S303))) (
 callT call 78 [(.sl w0a w0l w0c), (.int .i64 w1), (.int .i64 w2), (.int .i64 (IntKind.wrap .i64 ((IntKind.wrap .i64 (w2 - 1)) - (IntKind.wrap .i64 (v211 - w1)))))] S213 fun v306 S305 =>
 atI .i64 v306 0 fun v307 =>
 atB v306 1 fun v308 =>
 cond (decide ((IntKind.wrap .i64 (v307 - w1)) < (IntKind.wrap .i64 (w2 - v307)))) (
 callT call 58 [(.sl w0a w0l w0c), (.int .i64 w1), (.int .i64 v307), (.int .i64 w3)] S305 fun v310 S309 =>
 l1_1_0 w0a w0l w0c (IntKind.wrap .i64 (v307 + 1)) w2 w3 (decide ((IntKind.wrap .i64 (v307 - w1)) ≥ (IntKind.wrap .i64 (Int.tdiv (IntKind.wrap .i64 (w2 - w1)) 8)))) v308 S309) (
 callT call 58 [(.sl w0a w0l w0c), (.int .i64 (IntKind.wrap .i64 (v307 + 1))), (.int .i64 w2), (.int .i64 w3)] S305 fun v312 S311 =>
 l1_1_0 w0a w0l w0c w1 v307 w3 (decide ((IntKind.wrap .i64 (w2 - v307)) ≥ (IntKind.wrap .i64 (Int.tdiv (IntKind.wrap .i64 (w2 - w1)) 8)))) v308 S311)))) (
 cond w8 (
 cond w9 (
 cond (v212 == 1) (
 callB call 75 [(.sl w0a w0l w0c), (.int .i64 w1), (.int .i64 w2)] S209 fun v314 S313 =>
 cond v314 (
 some (.tup [], S313)) (
 cond (decide (w1 > 0)) (
 ixSl 1 w0a w0l (IntKind.wrap .i64 (w1 - 1)) fun p315 =>
 ldS S313 p315.1 p315.2 fun v316 =>
 ixSl 1 w0a w0l v211 fun p317 =>
 ldS S313 p317.1 p317.2 fun v318 =>
 callB call 76 [(.str v316), (.str v318)] S313 fun v320 S319 =>
 cond (!v320) (
 callI .i64 call 77 [(.sl w0a w0l w0c), (.int .i64 w1), (.int .i64 w2), (.int .i64 v211)] S319 fun v322 S321 =>
 l1_1_0 w0a w0l w0c v322 w2 w3 w8 w9 S321) (
 callT call 78 [(.sl w0a w0l w0c), (.int .i64 w1), (.int .i64 w2), (.int .i64 v211)] S319 fun v324 S323 =>
 atI .i64 v324 0 fun v325 =>
 atB v324 1 fun v326 =>
 cond (decide ((IntKind.wrap .i64 (v325 - w1)) < (IntKind.wrap .i64 (w2 - v325)))) (
 callT call 58 [(.sl w0a w0l w0c), (.int .i64 w1), (.int .i64 v325), (.int .i64 w3)] S323 fun v328 S327 =>
 l1_1_0 w0a w0l w0c (IntKind.wrap .i64 (v325 + 1)) w2 w3 (decide ((IntKind.wrap .i64 (v325 - w1)) ≥ (IntKind.wrap .i64 (Int.tdiv (IntKind.wrap .i64 (w2 - w1)) 8)))) v326 S327) (
 callT call 58 [(.sl w0a w0l w0c), (.int .i64 (IntKind.wrap .i64 (v325 + 1))), (.int .i64 w2), (.int .i64 w3)] S323 fun v330 S329 =>
 l1_1_0 w0a w0l w0c w1 v325 w3 (decide ((IntKind.wrap .i64 (w2 - v325)) ≥ (IntKind.wrap .i64 (Int.tdiv (IntKind.wrap .i64 (w2 - w1)) 8)))) v326 S329))) (
 callT call 78 [(.sl w0a w0l w0c), (.int .i64 w1), (.int .i64 w2), (.int .i64 v211)] S313 fun v332 S331 =>
 atI .i64 v332 0 fun v333 =>
 atB v332 1 fun v334 =>
 cond (decide ((IntKind.wrap .i64 (v333 - w1)) < (IntKind.wrap .i64 (w2 - v333)))) (
 callT call 58 [(.sl w0a w0l w0c), (.int .i64 w1), (.int .i64 v333), (.int .i64 w3)] S331 fun v336 S335 =>
 l1_1_0 w0a w0l w0c (IntKind.wrap .i64 (v333 + 1)) w2 w3 (decide ((IntKind.wrap .i64 (v333 - w1)) ≥ (IntKind.wrap .i64 (Int.tdiv (IntKind.wrap .i64 (w2 - w1)) 8)))) v334 S335) (
 callT call 58 [(.sl w0a w0l w0c), (.int .i64 (IntKind.wrap .i64 (v333 + 1))), (.int .i64 w2), (.int .i64 w3)] S331 fun v338 S337 =>
 l1_1_0 w0a w0l w0c w1 v333 w3 (decide ((IntKind.wrap .i64 (w2 - v333)) ≥ (IntKind.wrap .i64 (Int.tdiv (IntKind.wrap .i64 (w2 - w1)) 8)))) v334 S337)))) (
 cond (decide (w1 > 0)) (
 ixSl 1 w0a w0l (IntKind.wrap .i64 (w1 - 1)) fun p339 =>
 ldS S209 p339.1 p339.2 fun v340 =>
 ixSl 1 w0a w0l v211 fun p341 =>
 ldS S209 p341.1 p341.2 fun v342 =>
 callB call 76 [(.str v340), (.str v342)] S209 fun v344 S343 =>
 cond (!v344) (
 callI .i64 call 77 [(.sl w0a w0l w0c), (.int .i64 w1), (.int .i64 w2), (.int .i64 v211)] S343 fun v346 S345 =>
 l1_1_0 w0a w0l w0c v346 w2 w3 w8 w9 S345) (
 callT call 78 [(.sl w0a w0l w0c), (.int .i64 w1), (.int .i64 w2), (.int .i64 v211)] S343 fun v348 S347 =>
 atI .i64 v348 0 fun v349 =>
 atB v348 1 fun v350 =>
 cond (decide ((IntKind.wrap .i64 (v349 - w1)) < (IntKind.wrap .i64 (w2 - v349)))) (
 callT call 58 [(.sl w0a w0l w0c), (.int .i64 w1), (.int .i64 v349), (.int .i64 w3)] S347 fun v352 S351 =>
 l1_1_0 w0a w0l w0c (IntKind.wrap .i64 (v349 + 1)) w2 w3 (decide ((IntKind.wrap .i64 (v349 - w1)) ≥ (IntKind.wrap .i64 (Int.tdiv (IntKind.wrap .i64 (w2 - w1)) 8)))) v350 S351) (
 callT call 58 [(.sl w0a w0l w0c), (.int .i64 (IntKind.wrap .i64 (v349 + 1))), (.int .i64 w2), (.int .i64 w3)] S347 fun v354 S353 =>
 l1_1_0 w0a w0l w0c w1 v349 w3 (decide ((IntKind.wrap .i64 (w2 - v349)) ≥ (IntKind.wrap .i64 (Int.tdiv (IntKind.wrap .i64 (w2 - w1)) 8)))) v350 S353))) (
 callT call 78 [(.sl w0a w0l w0c), (.int .i64 w1), (.int .i64 w2), (.int .i64 v211)] S209 fun v356 S355 =>
 atI .i64 v356 0 fun v357 =>
 atB v356 1 fun v358 =>
 cond (decide ((IntKind.wrap .i64 (v357 - w1)) < (IntKind.wrap .i64 (w2 - v357)))) (
 callT call 58 [(.sl w0a w0l w0c), (.int .i64 w1), (.int .i64 v357), (.int .i64 w3)] S355 fun v360 S359 =>
 l1_1_0 w0a w0l w0c (IntKind.wrap .i64 (v357 + 1)) w2 w3 (decide ((IntKind.wrap .i64 (v357 - w1)) ≥ (IntKind.wrap .i64 (Int.tdiv (IntKind.wrap .i64 (w2 - w1)) 8)))) v358 S359) (
 callT call 58 [(.sl w0a w0l w0c), (.int .i64 (IntKind.wrap .i64 (v357 + 1))), (.int .i64 w2), (.int .i64 w3)] S355 fun v362 S361 =>
 l1_1_0 w0a w0l w0c w1 v357 w3 (decide ((IntKind.wrap .i64 (w2 - v357)) ≥ (IntKind.wrap .i64 (Int.tdiv (IntKind.wrap .i64 (w2 - w1)) 8)))) v358 S361)))) (
 cond (decide (w1 > 0)) (
 ixSl 1 w0a w0l (IntKind.wrap .i64 (w1 - 1)) fun p363 =>
 ldS S209 p363.1 p363.2 fun v364 =>
 ixSl 1 w0a w0l v211 fun p365 =>
 ldS S209 p365.1 p365.2 fun v366 =>
 callB call 76 [(.str v364), (.str v366)] S209 fun v368 S367 =>
 cond (!v368) (
 callI .i64 call 77 [(.sl w0a w0l w0c), (.int .i64 w1), (.int .i64 w2), (.int .i64 v211)] S367 fun v370 S369 =>
 l1_1_0 w0a w0l w0c v370 w2 w3 w8 w9 S369) (
 callT call 78 [(.sl w0a w0l w0c), (.int .i64 w1), (.int .i64 w2), (.int .i64 v211)] S367 fun v372 S371 =>
 atI .i64 v372 0 fun v373 =>
 atB v372 1 fun v374 =>
 cond (decide ((IntKind.wrap .i64 (v373 - w1)) < (IntKind.wrap .i64 (w2 - v373)))) (
 callT call 58 [(.sl w0a w0l w0c), (.int .i64 w1), (.int .i64 v373), (.int .i64 w3)] S371 fun v376 S375 =>
 l1_1_0 w0a w0l w0c (IntKind.wrap .i64 (v373 + 1)) w2 w3 (decide ((IntKind.wrap .i64 (v373 - w1)) ≥ (IntKind.wrap .i64 (Int.tdiv (IntKind.wrap .i64 (w2 - w1)) 8)))) v374 S375) (
 callT call 58 [(.sl w0a w0l w0c), (.int .i64 (IntKind.wrap .i64 (v373 + 1))), (.int .i64 w2), (.int .i64 w3)] S371 fun v378 S377 =>
 l1_1_0 w0a w0l w0c w1 v373 w3 (decide ((IntKind.wrap .i64 (w2 - v373)) ≥ (IntKind.wrap .i64 (Int.tdiv (IntKind.wrap .i64 (w2 - w1)) 8)))) v374 S377))) (
 callT call 78 [(.sl w0a w0l w0c), (.int .i64 w1), (.int .i64 w2), (.int .i64 v211)] S209 fun v380 S379 =>
 atI .i64 v380 0 fun v381 =>
 atB v380 1 fun v382 =>
 cond (decide ((IntKind.wrap .i64 (v381 - w1)) < (IntKind.wrap .i64 (w2 - v381)))) (
 callT call 58 [(.sl w0a w0l w0c), (.int .i64 w1), (.int .i64 v381), (.int .i64 w3)] S379 fun v384 S383 =>
 l1_1_0 w0a w0l w0c (IntKind.wrap .i64 (v381 + 1)) w2 w3 (decide ((IntKind.wrap .i64 (v381 - w1)) ≥ (IntKind.wrap .i64 (Int.tdiv (IntKind.wrap .i64 (w2 - w1)) 8)))) v382 S383) (
 callT call 58 [(.sl w0a w0l w0c), (.int .i64 (IntKind.wrap .i64 (v381 + 1))), (.int .i64 w2), (.int .i64 w3)] S379 fun v386 S385 =>
 l1_1_0 w0a w0l w0c w1 v381 w3 (decide ((IntKind.wrap .i64 (w2 - v381)) ≥ (IntKind.wrap .i64 (Int.tdiv (IntKind.wrap .i64 (w2 - w1)) 8)))) v382 S385)))) (
 cond (decide (w1 > 0)) (
 ixSl 1 w0a w0l (IntKind.wrap .i64 (w1 - 1)) fun p387 =>
 ldS S209 p387.1 p387.2 fun v388 =>
 ixSl 1 w0a w0l v211 fun p389 =>
 ldS S209 p389.1 p389.2 fun v390 =>
 callB call 76 [(.str v388), (.str v390)] S209 fun v392 S391 =>
 cond (!v392) (
 callI .i64 call 77 [(.sl w0a w0l w0c), (.int .i64 w1), (.int .i64 w2), (.int .i64 v211)] S391 fun v394 S393 =>
 l1_1_0 w0a w0l w0c v394 w2 w3 w8 w9 S393) (
 callT call 78 [(.sl w0a w0l w0c), (.int .i64 w1), (.int .i64 w2), (.int .i64 v211)] S391 fun v396 S395 =>
 atI .i64 v396 0 fun v397 =>
 atB v396 1 fun v398 =>
 cond (decide ((IntKind.wrap .i64 (v397 - w1)) < (IntKind.wrap .i64 (w2 - v397)))) (
 callT call 58 [(.sl w0a w0l w0c), (.int .i64 w1), (.int .i64 v397), (.int .i64 w3)] S395 fun v400 S399 =>
 l1_1_0 w0a w0l w0c (IntKind.wrap .i64 (v397 + 1)) w2 w3 (decide ((IntKind.wrap .i64 (v397 - w1)) ≥ (IntKind.wrap .i64 (Int.tdiv (IntKind.wrap .i64 (w2 - w1)) 8)))) v398 S399) (
 callT call 58 [(.sl w0a w0l w0c), (.int .i64 (IntKind.wrap .i64 (v397 + 1))), (.int .i64 w2), (.int .i64 w3)] S395 fun v402 S401 =>
 l1_1_0 w0a w0l w0c w1 v397 w3 (decide ((IntKind.wrap .i64 (w2 - v397)) ≥ (IntKind.wrap .i64 (Int.tdiv (IntKind.wrap .i64 (w2 - w1)) 8)))) v398 S401))) (
 callT call 78 [(.sl w0a w0l w0c), (.int .i64 w1), (.int .i64 w2), (.int .i64 v211)] S209 fun v404 S403 =>
 atI .i64 v404 0 fun v405 =>
 atB v404 1 fun v406 =>
 cond (decide ((IntKind.wrap .i64 (v405 - w1)) < (IntKind.wrap .i64 (w2 - v405)))) (
 callT call 58 [(.sl w0a w0l w0c), (.int .i64 w1), (.int .i64 v405), (.int .i64 w3)] S403 fun v408 S407 =>
 l1_1_0 w0a w0l w0c (IntKind.wrap .i64 (v405 + 1)) w2 w3 (decide ((IntKind.wrap .i64 (v405 - w1)) ≥ (IntKind.wrap .i64 (Int.tdiv (IntKind.wrap .i64 (w2 - w1)) 8)))) v406 S407) (
 callT call 58 [(.sl w0a w0l w0c), (.int .i64 (IntKind.wrap .i64 (v405 + 1))), (.int .i64 w2), (.int .i64 w3)] S403 fun v410 S409 =>
 l1_1_0 w0a w0l w0c w1 v405 w3 (decide ((IntKind.wrap .i64 (w2 - v405)) ≥ (IntKind.wrap .i64 (Int.tdiv (IntKind.wrap .i64 (w2 - w1)) 8)))) v406 S409)))))))

def b58_entry (call : CallA) (n : Nat)  (l1_1_0 : Option Pos → Nat → Cap → Int → Int → Int → Bool → Bool → AS → Option (AV × AS)) (x0a : Option Pos) (x0l : Nat) (x0c : Cap) (x1 : Int) (x2 : Int) (x3 : Int) (S : AS) : Option (AV × AS) :=
 l1_1_0 x0a x0l x0c x1 x2 x3 true true S

def r58_l1_1_0 (call : CallA) (n : Nat)  (m : Nat) (w0a : Option Pos) (w0l : Nat) (w0c : Cap) (w1 : Int) (w2 : Int) (w3 : Int) (w8 : Bool) (w9 : Bool) (S : AS) : Option (AV × AS) := loopN (evC E call n 58 (E.at 58 [1, 1, 0, 0]) 0) [0, 1, 2, 3, 8, 9] m [(0, (.sl w0a w0l w0c)), (1, (.int .i64 w1)), (2, (.int .i64 w2)), (3, (.int .i64 w3)), (8, (.bool w8)), (9, (.bool w9))] S (kBlk 0 (retK E (E.fn 58)))
theorem a58_l1_1_0 (call : CallA) (n : Nat)  (m : Nat) (w0a : Option Pos) (w0l : Nat) (w0c : Cap) (w1 : Int) (w2 : Int) (w3 : Int) (w8 : Bool) (w9 : Bool) (S : AS) : r58_l1_1_0 call n  (m + 1) w0a w0l w0c w1 w2 w3 w8 w9 S = b58_l1_1_0 call n (r58_l1_1_0 call n  m) w0a w0l w0c w1 w2 w3 w8 w9 S := by kernel_rfl
theorem a58_entry (call : CallA) (n : Nat) (x0a : Option Pos) (x0l : Nat) (x0c : Cap) (x1 : Int) (x2 : Int) (x3 : Int) (S : AS) : evC E call n 58 (E.at 58 []) 0 (enumT 0 [(.sl x0a x0l x0c), (.int .i64 x1), (.int .i64 x2), (.int .i64 x3)]) S (retK E (E.fn 58)) = b58_entry call n (r58_l1_1_0 call n  n) x0a x0l x0c x1 x2 x3 S := by kernel_rfl
def J58_l1_1_0 (call : CallA) (n : Nat)  (m : Nat) : Option Pos → Nat → Cap → Int → Int → Int → Bool → Bool → AS → Option (AV × AS) := Nat.rec (motive := fun _ => Option Pos → Nat → Cap → Int → Int → Int → Bool → Bool → AS → Option (AV × AS)) (fun _ _ _ _ _ _ _ _ _ => none) (fun mK ih w0a w0l w0c w1 w2 w3 w8 w9 S => b58_l1_1_0 call n ih w0a w0l w0c w1 w2 w3 w8 w9 S) m
theorem J58_l1_1_0_succ (call : CallA) (n : Nat)  (m : Nat) (w0a : Option Pos) (w0l : Nat) (w0c : Cap) (w1 : Int) (w2 : Int) (w3 : Int) (w8 : Bool) (w9 : Bool) (S : AS) : J58_l1_1_0 call n  (m + 1) w0a w0l w0c w1 w2 w3 w8 w9 S = b58_l1_1_0 call n (J58_l1_1_0 call n  m) w0a w0l w0c w1 w2 w3 w8 w9 S := rfl
theorem h58_l1_1_0 (call : CallA) (n : Nat)  (m : Nat) : r58_l1_1_0 call n  m = J58_l1_1_0 call n  m := by
  induction m with
  | zero => rfl
  | succ m ih =>
    funext w0a w0l w0c w1 w2 w3 w8 w9 S
    rw [J58_l1_1_0_succ, a58_l1_1_0, ih]
def J58 (call : CallA) (n : Nat) (x0a : Option Pos) (x0l : Nat) (x0c : Cap) (x1 : Int) (x2 : Int) (x3 : Int) (S : AS) : Option (AV × AS) := b58_entry call n (J58_l1_1_0 call n  n) x0a x0l x0c x1 x2 x3 S
theorem run58 (o : Orc) (n : Nat) (args : List AV) (S : AS) (ho : o 58 args = none) : evF E o (n + 1) (.fn 58) args S = evC E (evF E o n) n 58 (E.at 58 []) 0 (enumT 0 args) S (retK E (E.fn 58)) := by
  rw [evF, ho]; kernel_rfl
theorem J58_eq (call : CallA) (n : Nat) (x0a : Option Pos) (x0l : Nat) (x0c : Cap) (x1 : Int) (x2 : Int) (x3 : Int) (S : AS) : evC E call n 58 (E.at 58 []) 0 (enumT 0 [(.sl x0a x0l x0c), (.int .i64 x1), (.int .i64 x2), (.int .i64 x3)]) S (retK E (E.fn 58)) = J58 call n x0a x0l x0c x1 x2 x3 S := by
  rw [J58, a58_entry, h58_l1_1_0 call n  n]
theorem F58 {o : Orc} (n : Nat) (x0a : Option Pos) (x0l : Nat) (x0c : Cap) (x1 : Int) (x2 : Int) (x3 : Int) (S : AS) (ho : ∀ args, o 58 args = none) : evF E o (n + 1) (.fn 58) [(.sl x0a x0l x0c), (.int .i64 x1), (.int .i64 x2), (.int .i64 x3)] S = J58 (evF E o n) n x0a x0l x0c x1 x2 x3 S := (run58 o n [(.sl x0a x0l x0c), (.int .i64 x1), (.int .i64 x2), (.int .i64 x3)] S (ho _)).trans (J58_eq _ _ x0a x0l x0c x1 x2 x3 S)
def b59_entry (call : CallA) (n : Nat)   (x0 : Int) (S : AS) : Option (AV × AS) :=
 callI .i64 call 80 [(.int .u64 x0)] S fun v2 S1 =>
 some ((.int .i64 v2), S1)

theorem a59_entry (call : CallA) (n : Nat) (x0 : Int) (S : AS) : evC E call n 59 (E.at 59 []) 0 (enumT 0 [(.int .u64 x0)]) S (retK E (E.fn 59)) = b59_entry call n  x0 S := by kernel_rfl
def J59 (call : CallA) (n : Nat) (x0 : Int) (S : AS) : Option (AV × AS) := b59_entry call n  x0 S
theorem run59 (o : Orc) (n : Nat) (args : List AV) (S : AS) (ho : o 59 args = none) : evF E o (n + 1) (.fn 59) args S = evC E (evF E o n) n 59 (E.at 59 []) 0 (enumT 0 args) S (retK E (E.fn 59)) := by
  rw [evF, ho]; kernel_rfl
theorem J59_eq (call : CallA) (n : Nat) (x0 : Int) (S : AS) : evC E call n 59 (E.at 59 []) 0 (enumT 0 [(.int .u64 x0)]) S (retK E (E.fn 59)) = J59 call n x0 S := by
  rw [J59, a59_entry]
theorem F59 {o : Orc} (n : Nat) (x0 : Int) (S : AS) (ho : ∀ args, o 59 args = none) : evF E o (n + 1) (.fn 59) [(.int .u64 x0)] S = J59 (evF E o n) n x0 S := (run59 o n [(.int .u64 x0)] S (ho _)).trans (J59_eq _ _ x0 S)
def b60_l1_0 (call : CallA) (n : Nat)  (l1_0 : Option Pos → Nat → Cap → Int → Int → AS → Option (AV × AS)) (w0a : Option Pos) (w0l : Nat) (w0c : Cap) (w1 : Int) (w4 : Int) (S : AS) : Option (AV × AS) :=
 cond (decide (w4 ≥ 0)) (
 ixSl 1 w0a w0l w4 fun p1 =>
 S.stn p1.1 p1.2 [(.int .u8 (IntKind.wrap .u8 w1))] fun S2 =>
 l1_0 w0a w0l w0c (shrI .u64 w1 8) (IntKind.wrap .i64 (w4 - 1)) S2) (
 some (.tup [], S))

def b60_entry (call : CallA) (n : Nat)  (l1_0 : Option Pos → Nat → Cap → Int → Int → AS → Option (AV × AS)) (x0a : Option Pos) (x0l : Nat) (x0c : Cap) (x1 : Int) (S : AS) : Option (AV × AS) :=
 l1_0 x0a x0l x0c x1 (IntKind.wrap .i64 (((x0l : Nat) : Int) - 1)) S

def r60_l1_0 (call : CallA) (n : Nat)  (m : Nat) (w0a : Option Pos) (w0l : Nat) (w0c : Cap) (w1 : Int) (w4 : Int) (S : AS) : Option (AV × AS) := loopN (evC E call n 60 (E.at 60 [1, 0, 0]) 0) [0, 1, 4] m [(0, (.sl w0a w0l w0c)), (1, (.int .u64 w1)), (4, (.int .i64 w4))] S (kBlk 0 (retK E (E.fn 60)))
theorem a60_l1_0 (call : CallA) (n : Nat)  (m : Nat) (w0a : Option Pos) (w0l : Nat) (w0c : Cap) (w1 : Int) (w4 : Int) (S : AS) : r60_l1_0 call n  (m + 1) w0a w0l w0c w1 w4 S = b60_l1_0 call n (r60_l1_0 call n  m) w0a w0l w0c w1 w4 S := by kernel_rfl
theorem a60_entry (call : CallA) (n : Nat) (x0a : Option Pos) (x0l : Nat) (x0c : Cap) (x1 : Int) (S : AS) : evC E call n 60 (E.at 60 []) 0 (enumT 0 [(.sl x0a x0l x0c), (.int .u64 x1)]) S (retK E (E.fn 60)) = b60_entry call n (r60_l1_0 call n  n) x0a x0l x0c x1 S := by kernel_rfl
def J60_l1_0 (call : CallA) (n : Nat)  (m : Nat) : Option Pos → Nat → Cap → Int → Int → AS → Option (AV × AS) := Nat.rec (motive := fun _ => Option Pos → Nat → Cap → Int → Int → AS → Option (AV × AS)) (fun _ _ _ _ _ _ => none) (fun mK ih w0a w0l w0c w1 w4 S => b60_l1_0 call n ih w0a w0l w0c w1 w4 S) m
theorem J60_l1_0_succ (call : CallA) (n : Nat)  (m : Nat) (w0a : Option Pos) (w0l : Nat) (w0c : Cap) (w1 : Int) (w4 : Int) (S : AS) : J60_l1_0 call n  (m + 1) w0a w0l w0c w1 w4 S = b60_l1_0 call n (J60_l1_0 call n  m) w0a w0l w0c w1 w4 S := rfl
theorem h60_l1_0 (call : CallA) (n : Nat)  (m : Nat) : r60_l1_0 call n  m = J60_l1_0 call n  m := by
  induction m with
  | zero => rfl
  | succ m ih =>
    funext w0a w0l w0c w1 w4 S
    rw [J60_l1_0_succ, a60_l1_0, ih]
def J60 (call : CallA) (n : Nat) (x0a : Option Pos) (x0l : Nat) (x0c : Cap) (x1 : Int) (S : AS) : Option (AV × AS) := b60_entry call n (J60_l1_0 call n  n) x0a x0l x0c x1 S
theorem run60 (o : Orc) (n : Nat) (args : List AV) (S : AS) (ho : o 60 args = none) : evF E o (n + 1) (.fn 60) args S = evC E (evF E o n) n 60 (E.at 60 []) 0 (enumT 0 args) S (retK E (E.fn 60)) := by
  rw [evF, ho]; kernel_rfl
theorem J60_eq (call : CallA) (n : Nat) (x0a : Option Pos) (x0l : Nat) (x0c : Cap) (x1 : Int) (S : AS) : evC E call n 60 (E.at 60 []) 0 (enumT 0 [(.sl x0a x0l x0c), (.int .u64 x1)]) S (retK E (E.fn 60)) = J60 call n x0a x0l x0c x1 S := by
  rw [J60, a60_entry, h60_l1_0 call n  n]
theorem F60 {o : Orc} (n : Nat) (x0a : Option Pos) (x0l : Nat) (x0c : Cap) (x1 : Int) (S : AS) (ho : ∀ args, o 60 args = none) : evF E o (n + 1) (.fn 60) [(.sl x0a x0l x0c), (.int .u64 x1)] S = J60 (evF E o n) n x0a x0l x0c x1 S := (run60 o n [(.sl x0a x0l x0c), (.int .u64 x1)] S (ho _)).trans (J60_eq _ _ x0a x0l x0c x1 S)
def b61_entry (call : CallA) (n : Nat)   (x0 : Int) (x1 : Int) (S : AS) : Option (AV × AS) :=
 cond (x1 == 10) (
 cond (decide (x0 < 100)) (
 callS call 81 [(.int .i64 (IntKind.wrap .i64 x0))] S fun v2 S1 =>
 some ((.str v2), S1)) (
 newA S (.cells [(.int .u8 0), (.int .u8 0), (.int .u8 0), (.int .u8 0), (.int .u8 0), (.int .u8 0), (.int .u8 0), (.int .u8 0), (.int .u8 0), (.int .u8 0), (.int .u8 0), (.int .u8 0), (.int .u8 0), (.int .u8 0), (.int .u8 0), (.int .u8 0), (.int .u8 0), (.int .u8 0), (.int .u8 0), (.int .u8 0), (.int .u8 0), (.int .u8 0), (.int .u8 0), (.int .u8 0)]) fun b3 S4 =>
 callI .i64 call 82 [(.int .u64 x0)] S4 fun v6 S5 =>
 slArr 1 ((.rw b3), 0) 24 none (some v6) none fun v7a v7l v7c =>
 callT call 83 [(.sl v7a v7l v7c), (.int .u64 x0)] S5 fun v9 S8 =>
 slArr 1 ((.rw b3), 0) 24 none (some v6) none fun v10a v10l v10c =>
 bytesStr S8 v10a v10l fun s11 =>
 some ((.str s11), S8))) (
 callT call 84 [(.sl none 0 (.ex 0)), (.int .u64 x0), (.int .i64 x1), (.bool false), (.bool false)] S fun v13 S12 =>
 atL v13 0 fun v14a v14l v14c =>
 atS v13 1 fun v15 =>
 some ((.str v15), S12))

theorem a61_entry (call : CallA) (n : Nat) (x0 : Int) (x1 : Int) (S : AS) : evC E call n 61 (E.at 61 []) 0 (enumT 0 [(.int .u64 x0), (.int .i64 x1)]) S (retK E (E.fn 61)) = b61_entry call n  x0 x1 S := by kernel_rfl
def J61 (call : CallA) (n : Nat) (x0 : Int) (x1 : Int) (S : AS) : Option (AV × AS) := b61_entry call n  x0 x1 S
theorem run61 (o : Orc) (n : Nat) (args : List AV) (S : AS) (ho : o 61 args = none) : evF E o (n + 1) (.fn 61) args S = evC E (evF E o n) n 61 (E.at 61 []) 0 (enumT 0 args) S (retK E (E.fn 61)) := by
  rw [evF, ho]; kernel_rfl
theorem J61_eq (call : CallA) (n : Nat) (x0 : Int) (x1 : Int) (S : AS) : evC E call n 61 (E.at 61 []) 0 (enumT 0 [(.int .u64 x0), (.int .i64 x1)]) S (retK E (E.fn 61)) = J61 call n x0 x1 S := by
  rw [J61, a61_entry]
theorem F61 {o : Orc} (n : Nat) (x0 : Int) (x1 : Int) (S : AS) (ho : ∀ args, o 61 args = none) : evF E o (n + 1) (.fn 61) [(.int .u64 x0), (.int .i64 x1)] S = J61 (evF E o n) n x0 x1 S := (run61 o n [(.int .u64 x0), (.int .i64 x1)] S (ho _)).trans (J61_eq _ _ x0 x1 S)
def b62_entry (call : CallA) (n : Nat)   (x0 : Int) (x1 : Int) (x2 : Int) (x3 : Bool) (S : AS) : Option (AV × AS) :=
 cond x3 (
 some ((.bool (decide (x2 ≥ (IntKind.wrap .u64 (x0 - 1))))), S)) (
 cond (decide (x2 > x1)) (
 some ((.bool (decide ((IntKind.wrap .u64 (x2 - x1)) ≥ x0))), S)) (
 some ((.bool false), S)))

theorem a62_entry (call : CallA) (n : Nat) (x0 : Int) (x1 : Int) (x2 : Int) (x3 : Bool) (S : AS) : evC E call n 62 (E.at 62 []) 0 (enumT 0 [(.int .u64 x0), (.int .u64 x1), (.int .u64 x2), (.bool x3)]) S (retK E (E.fn 62)) = b62_entry call n  x0 x1 x2 x3 S := by kernel_rfl
def J62 (call : CallA) (n : Nat) (x0 : Int) (x1 : Int) (x2 : Int) (x3 : Bool) (S : AS) : Option (AV × AS) := b62_entry call n  x0 x1 x2 x3 S
theorem run62 (o : Orc) (n : Nat) (args : List AV) (S : AS) (ho : o 62 args = none) : evF E o (n + 1) (.fn 62) args S = evC E (evF E o n) n 62 (E.at 62 []) 0 (enumT 0 args) S (retK E (E.fn 62)) := by
  rw [evF, ho]; kernel_rfl
theorem J62_eq (call : CallA) (n : Nat) (x0 : Int) (x1 : Int) (x2 : Int) (x3 : Bool) (S : AS) : evC E call n 62 (E.at 62 []) 0 (enumT 0 [(.int .u64 x0), (.int .u64 x1), (.int .u64 x2), (.bool x3)]) S (retK E (E.fn 62)) = J62 call n x0 x1 x2 x3 S := by
  rw [J62, a62_entry]
theorem F62 {o : Orc} (n : Nat) (x0 : Int) (x1 : Int) (x2 : Int) (x3 : Bool) (S : AS) (ho : ∀ args, o 62 args = none) : evF E o (n + 1) (.fn 62) [(.int .u64 x0), (.int .u64 x1), (.int .u64 x2), (.bool x3)] S = J62 (evF E o n) n x0 x1 x2 x3 S := (run62 o n [(.int .u64 x0), (.int .u64 x1), (.int .u64 x2), (.bool x3)] S (ho _)).trans (J62_eq _ _ x0 x1 x2 x3 S)
def b63_entry (call : CallA) (n : Nat)   (x0 : List UInt8) (x1 : List UInt8) (S : AS) : Option (AV × AS) :=
 cond (decide (((x0.length : Nat) : Int) ≥ ((x1.length : Nat) : Int))) (
 slStr x0 none (some ((x1.length : Nat) : Int)) fun v1 =>
 some ((.bool (v1 == x1)), S)) (
 some ((.bool false), S))

theorem a63_entry (call : CallA) (n : Nat) (x0 : List UInt8) (x1 : List UInt8) (S : AS) : evC E call n 63 (E.at 63 []) 0 (enumT 0 [(.str x0), (.str x1)]) S (retK E (E.fn 63)) = b63_entry call n  x0 x1 S := by kernel_rfl
def J63 (call : CallA) (n : Nat) (x0 : List UInt8) (x1 : List UInt8) (S : AS) : Option (AV × AS) := b63_entry call n  x0 x1 S
theorem run63 (o : Orc) (n : Nat) (args : List AV) (S : AS) (ho : o 63 args = none) : evF E o (n + 1) (.fn 63) args S = evC E (evF E o n) n 63 (E.at 63 []) 0 (enumT 0 args) S (retK E (E.fn 63)) := by
  rw [evF, ho]; kernel_rfl
theorem J63_eq (call : CallA) (n : Nat) (x0 : List UInt8) (x1 : List UInt8) (S : AS) : evC E call n 63 (E.at 63 []) 0 (enumT 0 [(.str x0), (.str x1)]) S (retK E (E.fn 63)) = J63 call n x0 x1 S := by
  rw [J63, a63_entry]
theorem F63 {o : Orc} (n : Nat) (x0 : List UInt8) (x1 : List UInt8) (S : AS) (ho : ∀ args, o 63 args = none) : evF E o (n + 1) (.fn 63) [(.str x0), (.str x1)] S = J63 (evF E o n) n x0 x1 S := (run63 o n [(.str x0), (.str x1)] S (ho _)).trans (J63_eq _ _ x0 x1 S)
end
end Go.Ct
