/- Plain readings of the functions, and that they are what the evaluator does: by program. -/
import Derived.Test.YtefpcbcbjnfhnaaGrRes
import Derived.Test.YtefpcbcbjnfhnaaENV
import Derived.KernelRfl
set_option maxRecDepth 100000
set_option linter.unusedVariables false
namespace Go.Jn
open Go.Gr
noncomputable section
def b28_l1_1_1_1_1_1_0_1_0 (call : CallA) (n : Nat)  (j1_1_1_1_1_1_1 : Option Pos → Option Pos → Nat → Cap → AS → Option (AV × AS)) (l1_1_1_1_1_1_0_1_0 : Option Pos → Option Pos → Nat → Cap → Int → Option Pos → Option Pos → Nat → Cap → Option Pos → Int → AS → Option (AV × AS)) (w6 : Option Pos) (w7a : Option Pos) (w7l : Nat) (w7c : Cap) (w8 : Int) (w10 : Option Pos) (w12a : Option Pos) (w12l : Nat) (w12c : Cap) (w13 : Option Pos) (w14 : Int) (S : AS) : Option (AV × AS) :=
 drawA S 19 fun b18 S19 =>
 callI .u64 call 31 [(.ptr w10)] S19 fun v21 S20 =>
 gO w13 fun p22 =>
 S20.ldn p22.1 p22.2 2 fun g23 =>
 gO w13 fun p24 =>
 S19.ldn p24.1 p24.2 2 fun g25 =>
 cond (AV.beq (.agg g25) (.agg g23)) (
 callI .i64 call 34 [(.ptr w10)] S20 fun v27 S26 =>
 gO w13 fun p28 =>
 S26.ldn p28.1 p28.2 2 fun g29 =>
 cond (AV.beq (.agg g29) (.agg g23)) (
 callT call 52 [(.ptr w10), (.int .u64 w14), (.int .u64 (IntKind.wrap .u64 (v21 + 1))), (.agg g23), (.int .i64 v27)] S26 fun v31 S30 =>
 atL v31 0 fun v32a v32l v32c =>
 atG 3 v31 1 fun g33 =>
 atB v31 2 fun v34 =>
 atI .i64 v31 3 fun v35 =>
 layA S30 (b18 + 14) (.cells [(.int .i64 0), (.int .u64 0), (.int .u64 0)]) fun S36 =>
 ifO (g33.length = 3) <|
 S36.stn (.rw (b18 + 14)) 0 g33 fun S37 =>
 cond (v35 != 0) (
 some (.tup [(.ptr none), (.sl none 0 (.ex 0)), (.int .i64 v35)], S37)) (
 cond (!v34) (
 j1_1_1_1_1_1_1 w10 w12a w12l w12c S37) (
 drawA S37 16 fun b38 S39 =>
 gO w10 fun p40 =>
 ldL S39 p40.1 (p40.2 + 9) fun v41a v41l v41c =>
 S39.ldn (.rw (b18 + 14)) 0 3 fun g42 =>
 ifO (g42.length = 3) <|
 ifO (0 + g42.length ≤ ([(.int .i64 0), (.int .u64 0), (.int .u64 0)] : List AV).length) <|
 layA S39 (b38 + 6) (.cells (splice [(.int .i64 0), (.int .u64 0), (.int .u64 0)] 0 g42)) fun S44 =>
 appendA 3 24 S44 v41a v41l v41c 1 (firstA S44 3 1 (.sl (some (.rw (b38 + 6), 0)) 1 (.ex 1))) fun v45a v45l v45c S46 =>
 layA S46 (b38 + 10) (.cells [(.sl v32a v32l v32c)]) fun S47 =>
 appendA 1 24 S47 w12a w12l w12c 1 (firstA S47 1 1 (.sl (some (.rw (b38 + 10), 0)) 1 (.ex 1))) fun v48a v48l v48c S49 =>
 gO w10 fun p50 =>
 S49.stn p50.1 (p50.2 + 9) [(.sl v45a v45l v45c)] fun S51 =>
 S51.ldn (.rw (b18 + 14)) 1 2 fun g52 =>
 gO w13 fun p54 =>
 ifO (g52.length = 2) <|
 S51.stn p54.1 p54.2 g52 fun S53 =>
 ldI .i64 S53 (.rw (b18 + 14)) 0 fun v55 =>
 l1_1_1_1_1_1_0_1_0 w6 w7a w7l w7c w8 w10 v48a v48l v48c w13 (IntKind.wrap .u64 (w14 + (IntKind.wrap .u64 v55))) S53))) none) none

def b28_j1_1_1_1_1_1_1 (call : CallA) (n : Nat)   (w10 : Option Pos) (w12a : Option Pos) (w12l : Nat) (w12c : Cap) (S : AS) : Option (AV × AS) :=
 gO w10 fun p56 =>
 S.ldn p56.1 (p56.2 + 3) 6 fun g57 =>
 newA S (.cells [(.int .u64 0), (.int .u64 0), (.int .u64 0), (.int .u64 0), (.int .u64 0), (.int .u64 0)]) fun b58 S59 =>
 ifO (g57.length = 6) <|
 S59.stn (.rw b58) 0 g57 fun S60 =>
 ldI .u64 S60 (.rw b58) 1 fun v61 =>
 S60.stn (.rw b58) 1 [(.int .u64 (IntKind.wrap .u64 (v61 + 1)))] fun S62 =>
 S62.ldn (.rw b58) 0 6 fun g63 =>
 callI .i64 call 53 [(.ptr w10), (.agg g63)] S62 fun v65 S64 =>
 cond (v65 != 0) (
 some (.tup [(.ptr none), (.sl none 0 (.ex 0)), (.int .i64 v65)], S64)) (
 callI .u64 call 31 [(.ptr w10)] S64 fun v67 S66 =>
 gO w10 fun p68 =>
 S66.stn p68.1 (p68.2 + 10) [(.int .u64 v67)] fun S69 =>
 some (.tup [(.ptr w10), (.sl w12a w12l w12c), (.int .i64 0)], S69))

def b28_entry (call : CallA) (n : Nat)  (l1_1_1_1_1_1_0_1_0 : Option Pos → Option Pos → Nat → Cap → Int → Option Pos → Option Pos → Nat → Cap → Option Pos → Int → AS → Option (AV × AS)) (x0 : AV) (x1 : Int) (x2 : Int) (S : AS) : Option (AV × AS) :=
 callI .i64 call 50 [x0, (.int .i64 x1), (.int .i64 x2)] S fun v2 S1 =>
 cond (v2 != 0) (
 some (.tup [(.ptr none), (.sl none 0 (.ex 0)), (.int .i64 v2)], S1)) (
 cellsOf ty86 x0 fun g3 =>
 ifO (0 + g3.length ≤ ([.nilIface, (.int .i64 0), (.int .i64 0), (.int .u64 0), (.int .u64 0), (.int .u64 0), (.int .u64 0), (.int .u64 0), (.int .u64 0), (.sl none 0 (.ex 0)), (.int .u64 0), (.int .u64 0)] : List AV).length) <|
 ifO (1 + ([(.int .i64 x1)] : List AV).length ≤ (splice [.nilIface, (.int .i64 0), (.int .i64 0), (.int .u64 0), (.int .u64 0), (.int .u64 0), (.int .u64 0), (.int .u64 0), (.int .u64 0), (.sl none 0 (.ex 0)), (.int .u64 0), (.int .u64 0)] 0 g3).length) <|
 ifO (2 + ([(.int .i64 x2)] : List AV).length ≤ (splice (splice [.nilIface, (.int .i64 0), (.int .i64 0), (.int .u64 0), (.int .u64 0), (.int .u64 0), (.int .u64 0), (.int .u64 0), (.int .u64 0), (.sl none 0 (.ex 0)), (.int .u64 0), (.int .u64 0)] 0 g3) 1 [(.int .i64 x1)]).length) <|
 ifO ((splice (splice (splice [.nilIface, (.int .i64 0), (.int .i64 0), (.int .u64 0), (.int .u64 0), (.int .u64 0), (.int .u64 0), (.int .u64 0), (.int .u64 0), (.sl none 0 (.ex 0)), (.int .u64 0), (.int .u64 0)] 0 g3) 1 [(.int .i64 x1)]) 2 [(.int .i64 x2)]).length = 12) <|
 newA S1 (.cells (splice (splice (splice [.nilIface, (.int .i64 0), (.int .i64 0), (.int .u64 0), (.int .u64 0), (.int .u64 0), (.int .u64 0), (.int .u64 0), (.int .u64 0), (.sl none 0 (.ex 0)), (.int .u64 0), (.int .u64 0)] 0 g3) 1 [(.int .i64 x1)]) 2 [(.int .i64 x2)])) fun b7 S8 =>
 callI .i64 call 51 [(.ptr (some ((.rw b7), 0)))] S8 fun v10 S9 =>
 cond (v10 != 0) (
 some (.tup [(.ptr none), (.sl none 0 (.ex 0)), (.int .i64 v10)], S9)) (
 drawA S9 13 fun b11 S12 =>
 ldI .u64 S12 (.rw b7) 7 fun v13 =>
 ldI .u64 S12 (.rw b7) 8 fun v14 =>
 layA S12 (b11 + 11) (.cells [(.int .u64 0), (.int .u64 0)]) fun S15 =>
 S15.stn (.rw (b11 + 11)) 0 [(.int .u64 v13), (.int .u64 v14)] fun S16 =>
 ldI .u64 S16 (.rw b7) 5 fun v17 =>
 l1_1_1_1_1_1_0_1_0 none none 0 (.ex 0) 0 (some ((.rw b7), 0)) none 0 (.ex 0) (some ((.rw (b11 + 11)), 0)) v17 S16))

def r28_l1_1_1_1_1_1_0_1_0 (call : CallA) (n : Nat)  (m : Nat) (w6 : Option Pos) (w7a : Option Pos) (w7l : Nat) (w7c : Cap) (w8 : Int) (w10 : Option Pos) (w12a : Option Pos) (w12l : Nat) (w12c : Cap) (w13 : Option Pos) (w14 : Int) (S : AS) : Option (AV × AS) := loopN (evC E call n 28 (E.at 28 [1, 1, 1, 1, 1, 1, 0, 1, 0, 0]) 0) [6, 7, 8, 10, 12, 13, 14] m [(6, (.ptr w6)), (7, (.sl w7a w7l w7c)), (8, (.int .i64 w8)), (10, (.ptr w10)), (12, (.sl w12a w12l w12c)), (13, (.ptr w13)), (14, (.int .u64 w14))] S (kBlk 0 (kSeq E call n 28 (E.at 28 [1, 1, 1, 1, 1, 1, 1]) 0 (retK E (E.fn 28))))
def r28_j1_1_1_1_1_1_1 (call : CallA) (n : Nat)  (w10 : Option Pos) (w12a : Option Pos) (w12l : Nat) (w12c : Cap) (S : AS) : Option (AV × AS) := evC E call n 28 (E.at 28 [1, 1, 1, 1, 1, 1, 1]) 0 [(10, (.ptr w10)), (12, (.sl w12a w12l w12c))] S (retK E (E.fn 28))
theorem a28_l1_1_1_1_1_1_0_1_0 (call : CallA) (n : Nat)  (m : Nat) (w6 : Option Pos) (w7a : Option Pos) (w7l : Nat) (w7c : Cap) (w8 : Int) (w10 : Option Pos) (w12a : Option Pos) (w12l : Nat) (w12c : Cap) (w13 : Option Pos) (w14 : Int) (S : AS) : r28_l1_1_1_1_1_1_0_1_0 call n  (m + 1) w6 w7a w7l w7c w8 w10 w12a w12l w12c w13 w14 S = b28_l1_1_1_1_1_1_0_1_0 call n (r28_j1_1_1_1_1_1_1 call n ) (r28_l1_1_1_1_1_1_0_1_0 call n  m) w6 w7a w7l w7c w8 w10 w12a w12l w12c w13 w14 S := by kernel_rfl
theorem a28_j1_1_1_1_1_1_1 (call : CallA) (n : Nat)  (w10 : Option Pos) (w12a : Option Pos) (w12l : Nat) (w12c : Cap) (S : AS) : r28_j1_1_1_1_1_1_1 call n  w10 w12a w12l w12c S = b28_j1_1_1_1_1_1_1 call n  w10 w12a w12l w12c S := by kernel_rfl
theorem a28_entry (call : CallA) (n : Nat) (x0 : AV) (x1 : Int) (x2 : Int) (S : AS) : evC E call n 28 (E.at 28 []) 0 (enumT 0 [x0, (.int .i64 x1), (.int .i64 x2)]) S (retK E (E.fn 28)) = b28_entry call n (r28_l1_1_1_1_1_1_0_1_0 call n  n) x0 x1 x2 S := by kernel_rfl
def J28_j1_1_1_1_1_1_1 (call : CallA) (n : Nat)  (w10 : Option Pos) (w12a : Option Pos) (w12l : Nat) (w12c : Cap) (S : AS) : Option (AV × AS) := b28_j1_1_1_1_1_1_1 call n  w10 w12a w12l w12c S
theorem h28_j1_1_1_1_1_1_1 (call : CallA) (n : Nat)  : r28_j1_1_1_1_1_1_1 call n  = J28_j1_1_1_1_1_1_1 call n  := by
  funext w10 w12a w12l w12c S
  rw [J28_j1_1_1_1_1_1_1, a28_j1_1_1_1_1_1_1]
def J28_l1_1_1_1_1_1_0_1_0 (call : CallA) (n : Nat)  (m : Nat) : Option Pos → Option Pos → Nat → Cap → Int → Option Pos → Option Pos → Nat → Cap → Option Pos → Int → AS → Option (AV × AS) := Nat.rec (motive := fun _ => Option Pos → Option Pos → Nat → Cap → Int → Option Pos → Option Pos → Nat → Cap → Option Pos → Int → AS → Option (AV × AS)) (fun _ _ _ _ _ _ _ _ _ _ _ _ => none) (fun mK ih w6 w7a w7l w7c w8 w10 w12a w12l w12c w13 w14 S => b28_l1_1_1_1_1_1_0_1_0 call n (J28_j1_1_1_1_1_1_1 call n ) ih w6 w7a w7l w7c w8 w10 w12a w12l w12c w13 w14 S) m
theorem J28_l1_1_1_1_1_1_0_1_0_succ (call : CallA) (n : Nat)  (m : Nat) (w6 : Option Pos) (w7a : Option Pos) (w7l : Nat) (w7c : Cap) (w8 : Int) (w10 : Option Pos) (w12a : Option Pos) (w12l : Nat) (w12c : Cap) (w13 : Option Pos) (w14 : Int) (S : AS) : J28_l1_1_1_1_1_1_0_1_0 call n  (m + 1) w6 w7a w7l w7c w8 w10 w12a w12l w12c w13 w14 S = b28_l1_1_1_1_1_1_0_1_0 call n (J28_j1_1_1_1_1_1_1 call n ) (J28_l1_1_1_1_1_1_0_1_0 call n  m) w6 w7a w7l w7c w8 w10 w12a w12l w12c w13 w14 S := rfl
theorem h28_l1_1_1_1_1_1_0_1_0 (call : CallA) (n : Nat)  (m : Nat) : r28_l1_1_1_1_1_1_0_1_0 call n  m = J28_l1_1_1_1_1_1_0_1_0 call n  m := by
  induction m with
  | zero => rfl
  | succ m ih =>
    funext w6 w7a w7l w7c w8 w10 w12a w12l w12c w13 w14 S
    rw [J28_l1_1_1_1_1_1_0_1_0_succ, a28_l1_1_1_1_1_1_0_1_0, h28_j1_1_1_1_1_1_1 call n , ih]
def J28 (call : CallA) (n : Nat) (x0 : AV) (x1 : Int) (x2 : Int) (S : AS) : Option (AV × AS) := b28_entry call n (J28_l1_1_1_1_1_1_0_1_0 call n  n) x0 x1 x2 S
theorem run28 (o : Orc) (n : Nat) (args : List AV) (S : AS) (ho : o 28 args = none) : evF E o (n + 1) (.fn 28) args S = evC E (evF E o n) n 28 (E.at 28 []) 0 (enumT 0 args) S (retK E (E.fn 28)) := by
  rw [evF, ho]; kernel_rfl
theorem J28_eq (call : CallA) (n : Nat) (x0 : AV) (x1 : Int) (x2 : Int) (S : AS) : evC E call n 28 (E.at 28 []) 0 (enumT 0 [x0, (.int .i64 x1), (.int .i64 x2)]) S (retK E (E.fn 28)) = J28 call n x0 x1 x2 S := by
  rw [J28, a28_entry, h28_l1_1_1_1_1_1_0_1_0 call n  n]
theorem F28 {o : Orc} (n : Nat) (x0 : AV) (x1 : Int) (x2 : Int) (S : AS) (ho : ∀ args, o 28 args = none) : evF E o (n + 1) (.fn 28) [x0, (.int .i64 x1), (.int .i64 x2)] S = J28 (evF E o n) n x0 x1 x2 S := (run28 o n [x0, (.int .i64 x1), (.int .i64 x2)] S (ho _)).trans (J28_eq _ _ x0 x1 x2 S)
def b29_entry (call : CallA) (n : Nat)   (x0 : Option Pos) (S : AS) : Option (AV × AS) :=
 cond x0.isNone (
 some ((.int .i64 7), S)) (
 gO x0 fun p1 =>
 ldV S p1.1 p1.2 fun v2 =>
 invV E call v2 "Flush" [] S fun v4 S3 =>
 gIk .i64 v4 fun v5 =>
 cond (v5 == 0) (
 callI .u64 call 31 [(.ptr x0)] S3 fun v7 S6 =>
 gO x0 fun p8 =>
 S6.stn p8.1 (p8.2 + 10) [(.int .u64 v7)] fun S9 =>
 some ((.int .i64 v5), S9)) (
 some ((.int .i64 v5), S3)))

theorem a29_entry (call : CallA) (n : Nat) (x0 : Option Pos) (S : AS) : evC E call n 29 (E.at 29 []) 0 (enumT 0 [(.ptr x0)]) S (retK E (E.fn 29)) = b29_entry call n  x0 S := by kernel_rfl
def J29 (call : CallA) (n : Nat) (x0 : Option Pos) (S : AS) : Option (AV × AS) := b29_entry call n  x0 S
theorem run29 (o : Orc) (n : Nat) (args : List AV) (S : AS) (ho : o 29 args = none) : evF E o (n + 1) (.fn 29) args S = evC E (evF E o n) n 29 (E.at 29 []) 0 (enumT 0 args) S (retK E (E.fn 29)) := by
  rw [evF, ho]; kernel_rfl
theorem J29_eq (call : CallA) (n : Nat) (x0 : Option Pos) (S : AS) : evC E call n 29 (E.at 29 []) 0 (enumT 0 [(.ptr x0)]) S (retK E (E.fn 29)) = J29 call n x0 S := by
  rw [J29, a29_entry]
theorem F29 {o : Orc} (n : Nat) (x0 : Option Pos) (S : AS) (ho : ∀ args, o 29 args = none) : evF E o (n + 1) (.fn 29) [(.ptr x0)] S = J29 (evF E o n) n x0 S := (run29 o n [(.ptr x0)] S (ho _)).trans (J29_eq _ _ x0 S)
def b30_l1_1_1_1_1_0_1_0 (call : CallA) (n : Nat)  (l1_1_1_1_1_0_1_0 : Option Pos → Int → Option Pos → Option Pos → Nat → Cap → Int → Int → AS → Option (AV × AS)) (j1_1_1_1_1_1 : Option Pos → Int → Option Pos → AS → Option (AV × AS)) (w0 : Option Pos) (w5 : Int) (w6 : Option Pos) (w56a : Option Pos) (w56l : Nat) (w56c : Cap) (w57 : Int) (w58 : Int) (S : AS) : Option (AV × AS) :=
 cond (decide (w58 < w57)) (
 ixSl 3 w56a w56l w58 fun p18 =>
 S.ldn p18.1 p18.2 3 fun g19 =>
 newA S (.cells [(.int .i64 0), (.int .u64 0), (.int .u64 0)]) fun b20 S21 =>
 ifO (g19.length = 3) <|
 S21.stn (.rw b20) 0 g19 fun S22 =>
 gO w6 fun p23 =>
 ldI .u64 S22 p23.1 (p23.2 + 2) fun v24 =>
 ldI .i64 S22 (.rw b20) 0 fun v25 =>
 gO w6 fun p26 =>
 S22.stn p26.1 (p26.2 + 2) [(.int .u64 (IntKind.wrap .u64 (v24 + (IntKind.wrap .u64 v25))))] fun S27 =>
 ldI .u64 S27 (.rw b20) 1 fun v28 =>
 ldI .u64 S27 (.rw b20) 2 fun v29 =>
 gO w6 fun p30 =>
 S27.stn p30.1 (p30.2 + 4) [(.int .u64 v28)] fun S31 =>
 ldI .u64 S31 (.rw b20) 2 fun v32 =>
 cond (AV.beq (.int .u64 v32) (.int .u64 v29)) (
 gO w6 fun p33 =>
 S31.stn p33.1 (p33.2 + 5) [(.int .u64 v29)] fun S34 =>
 l1_1_1_1_1_0_1_0 w0 w5 w6 w56a w56l w56c w57 (IntKind.wrap .i64 (w58 + 1)) S34) none) (
 j1_1_1_1_1_1 w0 w5 w6 S)

def b30_j1_1_1_1_1_1 (call : CallA) (n : Nat)   (w0 : Option Pos) (w5 : Int) (w6 : Option Pos) (S : AS) : Option (AV × AS) :=
 gO w6 fun p35 =>
 S.ldn p35.1 p35.2 6 fun g36 =>
 callI .i64 call 53 [(.ptr w0), (.agg g36)] S fun v38 S37 =>
 cond (v38 != 0) (
 some ((.int .i64 v38), S37)) (
 gO w0 fun p39 =>
 ldL S37 p39.1 (p39.2 + 9) fun v40a v40l v40c =>
 slSl 3 v40a v40l v40c (some w5) none none fun v41a v41l v41c =>
 callL call 54 [(.sl v41a v41l v41c)] S37 fun v43a v43l v43c S42 =>
 gO w0 fun p44 =>
 S42.stn p44.1 (p44.2 + 9) [(.sl v43a v43l v43c)] fun S45 =>
 callI .u64 call 31 [(.ptr w0)] S45 fun v47 S46 =>
 gO w0 fun p48 =>
 S46.stn p48.1 (p48.2 + 10) [(.int .u64 v47)] fun S49 =>
 some ((.int .i64 0), S49))

def b30_entry (call : CallA) (n : Nat)  (l1_1_1_1_1_0_1_0 : Option Pos → Int → Option Pos → Option Pos → Nat → Cap → Int → Int → AS → Option (AV × AS)) (x0 : Option Pos) (x1 : Int) (S : AS) : Option (AV × AS) :=
 cond x0.isNone (
 some ((.int .i64 7), S)) (
 gO x0 fun p1 =>
 ldI .u64 S p1.1 (p1.2 + 10) fun v2 =>
 cond (decide (x1 > v2)) (
 some ((.int .i64 2), S)) (
 gO x0 fun p3 =>
 ldI .u64 S p3.1 (p3.2 + 3 + 3) fun v4 =>
 cond (decide (x1 < v4)) (
 some ((.int .i64 2), S)) (
 gO x0 fun p5 =>
 ldI .u64 S p5.1 (p5.2 + 3 + 3) fun v6 =>
 cond (x1 == v6) (
 some ((.int .i64 0), S)) (
 gO x0 fun p7 =>
 ldI .u64 S p7.1 (p7.2 + 3 + 3) fun v8 =>
 gO x0 fun p9 =>
 S.ldn p9.1 (p9.2 + 3) 6 fun g10 =>
 newA S (.cells [(.int .u64 0), (.int .u64 0), (.int .u64 0), (.int .u64 0), (.int .u64 0), (.int .u64 0)]) fun b11 S12 =>
 ifO (g10.length = 6) <|
 S12.stn (.rw b11) 0 g10 fun S13 =>
 S13.stn (.rw b11) 3 [(.int .u64 x1)] fun S14 =>
 gO x0 fun p15 =>
 ldL S14 p15.1 (p15.2 + 9) fun v16a v16l v16c =>
 slSl 3 v16a v16l v16c none (some (IntKind.wrap .i64 (IntKind.wrap .u64 (x1 - v8)))) none fun v17a v17l v17c =>
 l1_1_1_1_1_0_1_0 x0 (IntKind.wrap .i64 (IntKind.wrap .u64 (x1 - v8))) (some ((.rw b11), 0)) v17a v17l v17c ((v17l : Nat) : Int) 0 S14))))

def r30_l1_1_1_1_1_0_1_0 (call : CallA) (n : Nat)  (m : Nat) (w0 : Option Pos) (w5 : Int) (w6 : Option Pos) (w56a : Option Pos) (w56l : Nat) (w56c : Cap) (w57 : Int) (w58 : Int) (S : AS) : Option (AV × AS) := loopN (evC E call n 30 (E.at 30 [1, 1, 1, 1, 1, 0, 1, 0, 0]) 1) [0, 5, 6, 56, 57, 58] m [(0, (.ptr w0)), (5, (.int .i64 w5)), (6, (.ptr w6)), (56, (.sl w56a w56l w56c)), (57, (.int .i64 w57)), (58, (.int .i64 w58))] S (kBlk 1 (kSeq E call n 30 (E.at 30 [1, 1, 1, 1, 1, 1]) 0 (retK E (E.fn 30))))
def r30_j1_1_1_1_1_1 (call : CallA) (n : Nat)  (w0 : Option Pos) (w5 : Int) (w6 : Option Pos) (S : AS) : Option (AV × AS) := evC E call n 30 (E.at 30 [1, 1, 1, 1, 1, 1]) 0 [(0, (.ptr w0)), (5, (.int .i64 w5)), (6, (.ptr w6))] S (retK E (E.fn 30))
theorem a30_l1_1_1_1_1_0_1_0 (call : CallA) (n : Nat)  (m : Nat) (w0 : Option Pos) (w5 : Int) (w6 : Option Pos) (w56a : Option Pos) (w56l : Nat) (w56c : Cap) (w57 : Int) (w58 : Int) (S : AS) : r30_l1_1_1_1_1_0_1_0 call n  (m + 1) w0 w5 w6 w56a w56l w56c w57 w58 S = b30_l1_1_1_1_1_0_1_0 call n (r30_l1_1_1_1_1_0_1_0 call n  m) (r30_j1_1_1_1_1_1 call n ) w0 w5 w6 w56a w56l w56c w57 w58 S := by kernel_rfl
theorem a30_j1_1_1_1_1_1 (call : CallA) (n : Nat)  (w0 : Option Pos) (w5 : Int) (w6 : Option Pos) (S : AS) : r30_j1_1_1_1_1_1 call n  w0 w5 w6 S = b30_j1_1_1_1_1_1 call n  w0 w5 w6 S := by kernel_rfl
theorem a30_entry (call : CallA) (n : Nat) (x0 : Option Pos) (x1 : Int) (S : AS) : evC E call n 30 (E.at 30 []) 0 (enumT 0 [(.ptr x0), (.int .u64 x1)]) S (retK E (E.fn 30)) = b30_entry call n (r30_l1_1_1_1_1_0_1_0 call n  n) x0 x1 S := by kernel_rfl
def J30_j1_1_1_1_1_1 (call : CallA) (n : Nat)  (w0 : Option Pos) (w5 : Int) (w6 : Option Pos) (S : AS) : Option (AV × AS) := b30_j1_1_1_1_1_1 call n  w0 w5 w6 S
theorem h30_j1_1_1_1_1_1 (call : CallA) (n : Nat)  : r30_j1_1_1_1_1_1 call n  = J30_j1_1_1_1_1_1 call n  := by
  funext w0 w5 w6 S
  rw [J30_j1_1_1_1_1_1, a30_j1_1_1_1_1_1]
def J30_l1_1_1_1_1_0_1_0 (call : CallA) (n : Nat)  (m : Nat) : Option Pos → Int → Option Pos → Option Pos → Nat → Cap → Int → Int → AS → Option (AV × AS) := Nat.rec (motive := fun _ => Option Pos → Int → Option Pos → Option Pos → Nat → Cap → Int → Int → AS → Option (AV × AS)) (fun _ _ _ _ _ _ _ _ _ => none) (fun mK ih w0 w5 w6 w56a w56l w56c w57 w58 S => b30_l1_1_1_1_1_0_1_0 call n ih (J30_j1_1_1_1_1_1 call n ) w0 w5 w6 w56a w56l w56c w57 w58 S) m
theorem J30_l1_1_1_1_1_0_1_0_succ (call : CallA) (n : Nat)  (m : Nat) (w0 : Option Pos) (w5 : Int) (w6 : Option Pos) (w56a : Option Pos) (w56l : Nat) (w56c : Cap) (w57 : Int) (w58 : Int) (S : AS) : J30_l1_1_1_1_1_0_1_0 call n  (m + 1) w0 w5 w6 w56a w56l w56c w57 w58 S = b30_l1_1_1_1_1_0_1_0 call n (J30_l1_1_1_1_1_0_1_0 call n  m) (J30_j1_1_1_1_1_1 call n ) w0 w5 w6 w56a w56l w56c w57 w58 S := rfl
theorem h30_l1_1_1_1_1_0_1_0 (call : CallA) (n : Nat)  (m : Nat) : r30_l1_1_1_1_1_0_1_0 call n  m = J30_l1_1_1_1_1_0_1_0 call n  m := by
  induction m with
  | zero => rfl
  | succ m ih =>
    funext w0 w5 w6 w56a w56l w56c w57 w58 S
    rw [J30_l1_1_1_1_1_0_1_0_succ, a30_l1_1_1_1_1_0_1_0, h30_j1_1_1_1_1_1 call n , ih]
def J30 (call : CallA) (n : Nat) (x0 : Option Pos) (x1 : Int) (S : AS) : Option (AV × AS) := b30_entry call n (J30_l1_1_1_1_1_0_1_0 call n  n) x0 x1 S
theorem run30 (o : Orc) (n : Nat) (args : List AV) (S : AS) (ho : o 30 args = none) : evF E o (n + 1) (.fn 30) args S = evC E (evF E o n) n 30 (E.at 30 []) 0 (enumT 0 args) S (retK E (E.fn 30)) := by
  rw [evF, ho]; kernel_rfl
theorem J30_eq (call : CallA) (n : Nat) (x0 : Option Pos) (x1 : Int) (S : AS) : evC E call n 30 (E.at 30 []) 0 (enumT 0 [(.ptr x0), (.int .u64 x1)]) S (retK E (E.fn 30)) = J30 call n x0 x1 S := by
  rw [J30, a30_entry, h30_l1_1_1_1_1_0_1_0 call n  n]
theorem F30 {o : Orc} (n : Nat) (x0 : Option Pos) (x1 : Int) (S : AS) (ho : ∀ args, o 30 args = none) : evF E o (n + 1) (.fn 30) [(.ptr x0), (.int .u64 x1)] S = J30 (evF E o n) n x0 x1 S := (run30 o n [(.ptr x0), (.int .u64 x1)] S (ho _)).trans (J30_eq _ _ x0 x1 S)
def b31_entry (call : CallA) (n : Nat)   (x0 : Option Pos) (S : AS) : Option (AV × AS) :=
 cond x0.isNone (
 some ((.int .u64 0), S)) (
 gO x0 fun p1 =>
 ldI .u64 S p1.1 (p1.2 + 3 + 3) fun v2 =>
 gO x0 fun p3 =>
 ldL S p3.1 (p3.2 + 9) fun v4a v4l v4c =>
 some ((.int .u64 (IntKind.wrap .u64 (v2 + (IntKind.wrap .u64 ((v4l : Nat) : Int))))), S))

theorem a31_entry (call : CallA) (n : Nat) (x0 : Option Pos) (S : AS) : evC E call n 31 (E.at 31 []) 0 (enumT 0 [(.ptr x0)]) S (retK E (E.fn 31)) = b31_entry call n  x0 S := by kernel_rfl
def J31 (call : CallA) (n : Nat) (x0 : Option Pos) (S : AS) : Option (AV × AS) := b31_entry call n  x0 S
theorem run31 (o : Orc) (n : Nat) (args : List AV) (S : AS) (ho : o 31 args = none) : evF E o (n + 1) (.fn 31) args S = evC E (evF E o n) n 31 (E.at 31 []) 0 (enumT 0 args) S (retK E (E.fn 31)) := by
  rw [evF, ho]; kernel_rfl
theorem J31_eq (call : CallA) (n : Nat) (x0 : Option Pos) (S : AS) : evC E call n 31 (E.at 31 []) 0 (enumT 0 [(.ptr x0)]) S (retK E (E.fn 31)) = J31 call n x0 S := by
  rw [J31, a31_entry]
theorem F31 {o : Orc} (n : Nat) (x0 : Option Pos) (S : AS) (ho : ∀ args, o 31 args = none) : evF E o (n + 1) (.fn 31) [(.ptr x0)] S = J31 (evF E o n) n x0 S := (run31 o n [(.ptr x0)] S (ho _)).trans (J31_eq _ _ x0 S)
def b32_entry (call : CallA) (n : Nat)   (x0 : Option Pos) (S : AS) : Option (AV × AS) :=
 cond x0.isNone (
 some ((.int .u64 0), S)) (
 gO x0 fun p1 =>
 ldI .u64 S p1.1 (p1.2 + 10) fun v2 =>
 some ((.int .u64 v2), S))

theorem a32_entry (call : CallA) (n : Nat) (x0 : Option Pos) (S : AS) : evC E call n 32 (E.at 32 []) 0 (enumT 0 [(.ptr x0)]) S (retK E (E.fn 32)) = b32_entry call n  x0 S := by kernel_rfl
def J32 (call : CallA) (n : Nat) (x0 : Option Pos) (S : AS) : Option (AV × AS) := b32_entry call n  x0 S
theorem run32 (o : Orc) (n : Nat) (args : List AV) (S : AS) (ho : o 32 args = none) : evF E o (n + 1) (.fn 32) args S = evC E (evF E o n) n 32 (E.at 32 []) 0 (enumT 0 args) S (retK E (E.fn 32)) := by
  rw [evF, ho]; kernel_rfl
theorem J32_eq (call : CallA) (n : Nat) (x0 : Option Pos) (S : AS) : evC E call n 32 (E.at 32 []) 0 (enumT 0 [(.ptr x0)]) S (retK E (E.fn 32)) = J32 call n x0 S := by
  rw [J32, a32_entry]
theorem F32 {o : Orc} (n : Nat) (x0 : Option Pos) (S : AS) (ho : ∀ args, o 32 args = none) : evF E o (n + 1) (.fn 32) [(.ptr x0)] S = J32 (evF E o n) n x0 S := (run32 o n [(.ptr x0)] S (ho _)).trans (J32_eq _ _ x0 S)
def b33_entry (call : CallA) (n : Nat)   (x0 : Option Pos) (S : AS) : Option (AV × AS) :=
 cond x0.isNone (
 some ((.int .u64 0), S)) (
 gO x0 fun p1 =>
 ldI .u64 S p1.1 (p1.2 + 3 + 3) fun v2 =>
 some ((.int .u64 v2), S))

theorem a33_entry (call : CallA) (n : Nat) (x0 : Option Pos) (S : AS) : evC E call n 33 (E.at 33 []) 0 (enumT 0 [(.ptr x0)]) S (retK E (E.fn 33)) = b33_entry call n  x0 S := by kernel_rfl
def J33 (call : CallA) (n : Nat) (x0 : Option Pos) (S : AS) : Option (AV × AS) := b33_entry call n  x0 S
theorem run33 (o : Orc) (n : Nat) (args : List AV) (S : AS) (ho : o 33 args = none) : evF E o (n + 1) (.fn 33) args S = evC E (evF E o n) n 33 (E.at 33 []) 0 (enumT 0 args) S (retK E (E.fn 33)) := by
  rw [evF, ho]; kernel_rfl
theorem J33_eq (call : CallA) (n : Nat) (x0 : Option Pos) (S : AS) : evC E call n 33 (E.at 33 []) 0 (enumT 0 [(.ptr x0)]) S (retK E (E.fn 33)) = J33 call n x0 S := by
  rw [J33, a33_entry]
theorem F33 {o : Orc} (n : Nat) (x0 : Option Pos) (S : AS) (ho : ∀ args, o 33 args = none) : evF E o (n + 1) (.fn 33) [(.ptr x0)] S = J33 (evF E o n) n x0 S := (run33 o n [(.ptr x0)] S (ho _)).trans (J33_eq _ _ x0 S)
def b34_l1_1_1_0_1_0 (call : CallA) (n : Nat)  (l1_1_1_0_1_0 : Int → Option Pos → Nat → Cap → Int → Int → AS → Option (AV × AS)) (w3 : Int) (w16a : Option Pos) (w16l : Nat) (w16c : Cap) (w17 : Int) (w18 : Int) (S : AS) : Option (AV × AS) :=
 cond (decide (w18 < w17)) (
 ixSl 3 w16a w16l w18 fun p5 =>
 S.ldn p5.1 p5.2 3 fun g6 =>
 newA S (.cells [(.int .i64 0), (.int .u64 0), (.int .u64 0)]) fun b7 S8 =>
 ifO (g6.length = 3) <|
 S8.stn (.rw b7) 0 g6 fun S9 =>
 ldI .i64 S9 (.rw b7) 0 fun v10 =>
 l1_1_1_0_1_0 (IntKind.wrap .i64 (w3 - v10)) w16a w16l w16c w17 (IntKind.wrap .i64 (w18 + 1)) S9) (
 some ((.int .i64 w3), S))

def b34_entry (call : CallA) (n : Nat)  (l1_1_1_0_1_0 : Int → Option Pos → Nat → Cap → Int → Int → AS → Option (AV × AS)) (x0 : Option Pos) (S : AS) : Option (AV × AS) :=
 cond x0.isNone (
 some ((.int .i64 0), S)) (
 gO x0 fun p1 =>
 ldI .i64 S p1.1 (p1.2 + 2) fun v2 =>
 gO x0 fun p3 =>
 ldL S p3.1 (p3.2 + 9) fun v4a v4l v4c =>
 l1_1_1_0_1_0 (IntKind.wrap .i64 (v2 - 2)) v4a v4l v4c ((v4l : Nat) : Int) 0 S)

def r34_l1_1_1_0_1_0 (call : CallA) (n : Nat)  (m : Nat) (w3 : Int) (w16a : Option Pos) (w16l : Nat) (w16c : Cap) (w17 : Int) (w18 : Int) (S : AS) : Option (AV × AS) := loopN (evC E call n 34 (E.at 34 [1, 1, 1, 0, 1, 0, 0]) 0) [3, 16, 17, 18] m [(3, (.int .i64 w3)), (16, (.sl w16a w16l w16c)), (17, (.int .i64 w17)), (18, (.int .i64 w18))] S (kBlk 0 (kSeq E call n 34 (E.at 34 [1, 1, 1, 1]) 0 (retK E (E.fn 34))))
theorem a34_l1_1_1_0_1_0 (call : CallA) (n : Nat)  (m : Nat) (w3 : Int) (w16a : Option Pos) (w16l : Nat) (w16c : Cap) (w17 : Int) (w18 : Int) (S : AS) : r34_l1_1_1_0_1_0 call n  (m + 1) w3 w16a w16l w16c w17 w18 S = b34_l1_1_1_0_1_0 call n (r34_l1_1_1_0_1_0 call n  m) w3 w16a w16l w16c w17 w18 S := by kernel_rfl
theorem a34_entry (call : CallA) (n : Nat) (x0 : Option Pos) (S : AS) : evC E call n 34 (E.at 34 []) 0 (enumT 0 [(.ptr x0)]) S (retK E (E.fn 34)) = b34_entry call n (r34_l1_1_1_0_1_0 call n  n) x0 S := by kernel_rfl
def J34_l1_1_1_0_1_0 (call : CallA) (n : Nat)  (m : Nat) : Int → Option Pos → Nat → Cap → Int → Int → AS → Option (AV × AS) := Nat.rec (motive := fun _ => Int → Option Pos → Nat → Cap → Int → Int → AS → Option (AV × AS)) (fun _ _ _ _ _ _ _ => none) (fun mK ih w3 w16a w16l w16c w17 w18 S => b34_l1_1_1_0_1_0 call n ih w3 w16a w16l w16c w17 w18 S) m
theorem J34_l1_1_1_0_1_0_succ (call : CallA) (n : Nat)  (m : Nat) (w3 : Int) (w16a : Option Pos) (w16l : Nat) (w16c : Cap) (w17 : Int) (w18 : Int) (S : AS) : J34_l1_1_1_0_1_0 call n  (m + 1) w3 w16a w16l w16c w17 w18 S = b34_l1_1_1_0_1_0 call n (J34_l1_1_1_0_1_0 call n  m) w3 w16a w16l w16c w17 w18 S := rfl
theorem h34_l1_1_1_0_1_0 (call : CallA) (n : Nat)  (m : Nat) : r34_l1_1_1_0_1_0 call n  m = J34_l1_1_1_0_1_0 call n  m := by
  induction m with
  | zero => rfl
  | succ m ih =>
    funext w3 w16a w16l w16c w17 w18 S
    rw [J34_l1_1_1_0_1_0_succ, a34_l1_1_1_0_1_0, ih]
def J34 (call : CallA) (n : Nat) (x0 : Option Pos) (S : AS) : Option (AV × AS) := b34_entry call n (J34_l1_1_1_0_1_0 call n  n) x0 S
theorem run34 (o : Orc) (n : Nat) (args : List AV) (S : AS) (ho : o 34 args = none) : evF E o (n + 1) (.fn 34) args S = evC E (evF E o n) n 34 (E.at 34 []) 0 (enumT 0 args) S (retK E (E.fn 34)) := by
  rw [evF, ho]; kernel_rfl
theorem J34_eq (call : CallA) (n : Nat) (x0 : Option Pos) (S : AS) : evC E call n 34 (E.at 34 []) 0 (enumT 0 [(.ptr x0)]) S (retK E (E.fn 34)) = J34 call n x0 S := by
  rw [J34, a34_entry, h34_l1_1_1_0_1_0 call n  n]
theorem F34 {o : Orc} (n : Nat) (x0 : Option Pos) (S : AS) (ho : ∀ args, o 34 args = none) : evF E o (n + 1) (.fn 34) [(.ptr x0)] S = J34 (evF E o n) n x0 S := (run34 o n [(.ptr x0)] S (ho _)).trans (J34_eq _ _ x0 S)
def b35_entry (call : CallA) (n : Nat)   (x0 : Option Pos) (S : AS) : Option (AV × AS) :=
 cond x0.isNone (
 some ((.int .u64 0), S)) (
 gO x0 fun p1 =>
 ldI .u64 S p1.1 (p1.2 + 3 + 1) fun v2 =>
 some ((.int .u64 v2), S))

theorem a35_entry (call : CallA) (n : Nat) (x0 : Option Pos) (S : AS) : evC E call n 35 (E.at 35 []) 0 (enumT 0 [(.ptr x0)]) S (retK E (E.fn 35)) = b35_entry call n  x0 S := by kernel_rfl
def J35 (call : CallA) (n : Nat) (x0 : Option Pos) (S : AS) : Option (AV × AS) := b35_entry call n  x0 S
theorem run35 (o : Orc) (n : Nat) (args : List AV) (S : AS) (ho : o 35 args = none) : evF E o (n + 1) (.fn 35) args S = evC E (evF E o n) n 35 (E.at 35 []) 0 (enumT 0 args) S (retK E (E.fn 35)) := by
  rw [evF, ho]; kernel_rfl
theorem J35_eq (call : CallA) (n : Nat) (x0 : Option Pos) (S : AS) : evC E call n 35 (E.at 35 []) 0 (enumT 0 [(.ptr x0)]) S (retK E (E.fn 35)) = J35 call n x0 S := by
  rw [J35, a35_entry]
theorem F35 {o : Orc} (n : Nat) (x0 : Option Pos) (S : AS) (ho : ∀ args, o 35 args = none) : evF E o (n + 1) (.fn 35) [(.ptr x0)] S = J35 (evF E o n) n x0 S := (run35 o n [(.ptr x0)] S (ho _)).trans (J35_eq _ _ x0 S)
def b36_l1_1_0_1_0 (call : CallA) (n : Nat)  (l1_1_0_1_0 : AV → Int → Int → Int → Int → AS → Option (AV × AS)) (j1_1_1 : AV → Int → AS → Option (AV × AS)) (w0 : AV) (w1 : Int) (w2 : Int) (w6 : Int) (w8 : Int) (S : AS) : Option (AV × AS) :=
 cond (decide (w8 < (IntKind.wrap .i64 (w1 + w2)))) (
 drawA S 8 fun b3 S4 =>
 mkSl 1 384 384 fun l5 c6 =>
 mthV w0 "Write" fun v7 =>
 nilV E v7 fun v8 =>
 layA S4 (b3 + 2) (.cells (zeros c6 [(.int .u8 0)])) fun S9 =>
 invV E call w0 "Write" [(.int .i64 w8), (.sl (some (.rw (b3 + 2), 0)) l5 (.ex c6))] S9 fun v11 S10 =>
 gIk .i64 v11 fun v12 =>
 cond (v12 != 0) (
 some ((.int .i64 v12), S10)) (
 l1_1_0_1_0 w0 w1 w2 w6 (IntKind.wrap .i64 (w8 + 1)) S10)) (
 j1_1_1 w0 w1 S)

def b36_j1_1_1 (call : CallA) (n : Nat)  (l1_1_1_1_0_1_0 : AV → Int → AV → Int → AS → Option (AV × AS)) (w0 : AV) (w1 : Int) (S : AS) : Option (AV × AS) :=
 invV E call w0 "Flush" [] S fun v14 S13 =>
 gIk .i64 v14 fun v15 =>
 cond (v15 != 0) (
 some ((.int .i64 v15), S13)) (
 l1_1_1_1_0_1_0 w0 w1 .undef 0 S13)

def b36_l1_1_1_1_0_1_0 (call : CallA) (n : Nat)  (l1_1_1_1_0_1_0 : AV → Int → AV → Int → AS → Option (AV × AS)) (j1_1_1_1_1 : AV → AS → Option (AV × AS)) (w0 : AV) (w1 : Int) (w6 : AV) (w46 : Int) (S : AS) : Option (AV × AS) :=
 cond (decide (w46 < 2)) (
 callT call 10 [(.agg [(.int .u64 (IntKind.wrap .u64 (IntKind.wrap .i64 (w46 + 1)))), (.int .u64 1), (.int .u64 0), (.int .u64 0), (.int .u64 0), (.int .u64 0)])] S fun v17 S16 =>
 atL v17 0 fun v18a v18l v18c =>
 atI .i64 v17 1 fun v19 =>
 invV E call w0 "Write" [(.int .i64 (IntKind.wrap .i64 (w1 + w46))), (.sl v18a v18l v18c)] S16 fun v21 S20 =>
 gIk .i64 v21 fun v22 =>
 cond (v22 != 0) (
 some ((.int .i64 v22), S20)) (
 l1_1_1_1_0_1_0 w0 w1 w6 (IntKind.wrap .i64 (w46 + 1)) S20)) (
 j1_1_1_1_1 w0 S)

def b36_j1_1_1_1_1 (call : CallA) (n : Nat)   (w0 : AV) (S : AS) : Option (AV × AS) :=
 invV E call w0 "Flush" [] S fun v24 S23 =>
 gIk .i64 v24 fun v25 =>
 some ((.int .i64 v25), S23)

def b36_entry (call : CallA) (n : Nat)  (l1_1_0_1_0 : AV → Int → Int → Int → Int → AS → Option (AV × AS)) (x0 : AV) (x1 : Int) (x2 : Int) (S : AS) : Option (AV × AS) :=
 callI .i64 call 50 [x0, (.int .i64 x1), (.int .i64 x2)] S fun v2 S1 =>
 cond (v2 != 0) (
 some ((.int .i64 v2), S1)) (
 l1_1_0_1_0 x0 x1 x2 0 (IntKind.wrap .i64 (x1 + 2)) S1)

def r36_l1_1_0_1_0 (call : CallA) (n : Nat)  (m : Nat) (w0 : AV) (w1 : Int) (w2 : Int) (w6 : Int) (w8 : Int) (S : AS) : Option (AV × AS) := loopN (evC E call n 36 (E.at 36 [1, 1, 0, 1, 0, 0]) 0) [0, 1, 2, 6, 8] m [(0, w0), (1, (.int .i64 w1)), (2, (.int .i64 w2)), (6, (.int .i64 w6)), (8, (.int .i64 w8))] S (kBlk 0 (kSeq E call n 36 (E.at 36 [1, 1, 1]) 0 (retK E (E.fn 36))))
def r36_j1_1_1 (call : CallA) (n : Nat)  (w0 : AV) (w1 : Int) (S : AS) : Option (AV × AS) := evC E call n 36 (E.at 36 [1, 1, 1]) 0 [(0, w0), (1, (.int .i64 w1))] S (retK E (E.fn 36))
def r36_l1_1_1_1_0_1_0 (call : CallA) (n : Nat)  (m : Nat) (w0 : AV) (w1 : Int) (w6 : AV) (w46 : Int) (S : AS) : Option (AV × AS) := loopN (evC E call n 36 (E.at 36 [1, 1, 1, 1, 0, 1, 0, 0]) 2) [0, 1, 6, 46] m [(0, w0), (1, (.int .i64 w1)), (6, w6), (46, (.int .i64 w46))] S (kBlk 2 (kSeq E call n 36 (E.at 36 [1, 1, 1, 1, 1]) 0 (retK E (E.fn 36))))
def r36_j1_1_1_1_1 (call : CallA) (n : Nat)  (w0 : AV) (S : AS) : Option (AV × AS) := evC E call n 36 (E.at 36 [1, 1, 1, 1, 1]) 0 [(0, w0)] S (retK E (E.fn 36))
theorem a36_l1_1_0_1_0 (call : CallA) (n : Nat)  (m : Nat) (w0 : AV) (w1 : Int) (w2 : Int) (w6 : Int) (w8 : Int) (S : AS) : r36_l1_1_0_1_0 call n  (m + 1) w0 w1 w2 w6 w8 S = b36_l1_1_0_1_0 call n (r36_l1_1_0_1_0 call n  m) (r36_j1_1_1 call n ) w0 w1 w2 w6 w8 S := by kernel_rfl
theorem a36_j1_1_1 (call : CallA) (n : Nat)  (w0 : AV) (w1 : Int) (S : AS) : r36_j1_1_1 call n  w0 w1 S = b36_j1_1_1 call n (r36_l1_1_1_1_0_1_0 call n  n) w0 w1 S := by kernel_rfl
theorem a36_l1_1_1_1_0_1_0 (call : CallA) (n : Nat)  (m : Nat) (w0 : AV) (w1 : Int) (w6 : AV) (w46 : Int) (S : AS) : r36_l1_1_1_1_0_1_0 call n  (m + 1) w0 w1 w6 w46 S = b36_l1_1_1_1_0_1_0 call n (r36_l1_1_1_1_0_1_0 call n  m) (r36_j1_1_1_1_1 call n ) w0 w1 w6 w46 S := by kernel_rfl
theorem a36_j1_1_1_1_1 (call : CallA) (n : Nat)  (w0 : AV) (S : AS) : r36_j1_1_1_1_1 call n  w0 S = b36_j1_1_1_1_1 call n  w0 S := by kernel_rfl
theorem a36_entry (call : CallA) (n : Nat) (x0 : AV) (x1 : Int) (x2 : Int) (S : AS) : evC E call n 36 (E.at 36 []) 0 (enumT 0 [x0, (.int .i64 x1), (.int .i64 x2)]) S (retK E (E.fn 36)) = b36_entry call n (r36_l1_1_0_1_0 call n  n) x0 x1 x2 S := by kernel_rfl
def J36_j1_1_1_1_1 (call : CallA) (n : Nat)  (w0 : AV) (S : AS) : Option (AV × AS) := b36_j1_1_1_1_1 call n  w0 S
theorem h36_j1_1_1_1_1 (call : CallA) (n : Nat)  : r36_j1_1_1_1_1 call n  = J36_j1_1_1_1_1 call n  := by
  funext w0 S
  rw [J36_j1_1_1_1_1, a36_j1_1_1_1_1]
def J36_l1_1_1_1_0_1_0 (call : CallA) (n : Nat)  (m : Nat) : AV → Int → AV → Int → AS → Option (AV × AS) := Nat.rec (motive := fun _ => AV → Int → AV → Int → AS → Option (AV × AS)) (fun _ _ _ _ _ => none) (fun mK ih w0 w1 w6 w46 S => b36_l1_1_1_1_0_1_0 call n ih (J36_j1_1_1_1_1 call n ) w0 w1 w6 w46 S) m
theorem J36_l1_1_1_1_0_1_0_succ (call : CallA) (n : Nat)  (m : Nat) (w0 : AV) (w1 : Int) (w6 : AV) (w46 : Int) (S : AS) : J36_l1_1_1_1_0_1_0 call n  (m + 1) w0 w1 w6 w46 S = b36_l1_1_1_1_0_1_0 call n (J36_l1_1_1_1_0_1_0 call n  m) (J36_j1_1_1_1_1 call n ) w0 w1 w6 w46 S := rfl
theorem h36_l1_1_1_1_0_1_0 (call : CallA) (n : Nat)  (m : Nat) : r36_l1_1_1_1_0_1_0 call n  m = J36_l1_1_1_1_0_1_0 call n  m := by
  induction m with
  | zero => rfl
  | succ m ih =>
    funext w0 w1 w6 w46 S
    rw [J36_l1_1_1_1_0_1_0_succ, a36_l1_1_1_1_0_1_0, h36_j1_1_1_1_1 call n , ih]
def J36_j1_1_1 (call : CallA) (n : Nat)  (w0 : AV) (w1 : Int) (S : AS) : Option (AV × AS) := b36_j1_1_1 call n (J36_l1_1_1_1_0_1_0 call n  n) w0 w1 S
theorem h36_j1_1_1 (call : CallA) (n : Nat)  : r36_j1_1_1 call n  = J36_j1_1_1 call n  := by
  funext w0 w1 S
  rw [J36_j1_1_1, a36_j1_1_1, h36_l1_1_1_1_0_1_0 call n  n]
def J36_l1_1_0_1_0 (call : CallA) (n : Nat)  (m : Nat) : AV → Int → Int → Int → Int → AS → Option (AV × AS) := Nat.rec (motive := fun _ => AV → Int → Int → Int → Int → AS → Option (AV × AS)) (fun _ _ _ _ _ _ => none) (fun mK ih w0 w1 w2 w6 w8 S => b36_l1_1_0_1_0 call n ih (J36_j1_1_1 call n ) w0 w1 w2 w6 w8 S) m
theorem J36_l1_1_0_1_0_succ (call : CallA) (n : Nat)  (m : Nat) (w0 : AV) (w1 : Int) (w2 : Int) (w6 : Int) (w8 : Int) (S : AS) : J36_l1_1_0_1_0 call n  (m + 1) w0 w1 w2 w6 w8 S = b36_l1_1_0_1_0 call n (J36_l1_1_0_1_0 call n  m) (J36_j1_1_1 call n ) w0 w1 w2 w6 w8 S := rfl
theorem h36_l1_1_0_1_0 (call : CallA) (n : Nat)  (m : Nat) : r36_l1_1_0_1_0 call n  m = J36_l1_1_0_1_0 call n  m := by
  induction m with
  | zero => rfl
  | succ m ih =>
    funext w0 w1 w2 w6 w8 S
    rw [J36_l1_1_0_1_0_succ, a36_l1_1_0_1_0, h36_j1_1_1 call n , ih]
def J36 (call : CallA) (n : Nat) (x0 : AV) (x1 : Int) (x2 : Int) (S : AS) : Option (AV × AS) := b36_entry call n (J36_l1_1_0_1_0 call n  n) x0 x1 x2 S
theorem run36 (o : Orc) (n : Nat) (args : List AV) (S : AS) (ho : o 36 args = none) : evF E o (n + 1) (.fn 36) args S = evC E (evF E o n) n 36 (E.at 36 []) 0 (enumT 0 args) S (retK E (E.fn 36)) := by
  rw [evF, ho]; kernel_rfl
theorem J36_eq (call : CallA) (n : Nat) (x0 : AV) (x1 : Int) (x2 : Int) (S : AS) : evC E call n 36 (E.at 36 []) 0 (enumT 0 [x0, (.int .i64 x1), (.int .i64 x2)]) S (retK E (E.fn 36)) = J36 call n x0 x1 x2 S := by
  rw [J36, a36_entry, h36_l1_1_0_1_0 call n  n]
theorem F36 {o : Orc} (n : Nat) (x0 : AV) (x1 : Int) (x2 : Int) (S : AS) (ho : ∀ args, o 36 args = none) : evF E o (n + 1) (.fn 36) [x0, (.int .i64 x1), (.int .i64 x2)] S = J36 (evF E o n) n x0 x1 x2 S := (run36 o n [x0, (.int .i64 x1), (.int .i64 x2)] S (ho _)).trans (J36_eq _ _ x0 x1 x2 S)
def b37_l1_1_1_0_1_0 (call : CallA) (n : Nat)  (l1_1_1_0_1_0 : Int → List UInt8 → Option Pos → Int → AS → Option (AV × AS)) (w0 : Int) (w3 : List UInt8) (w4 : Option Pos) (w5 : Int) (S : AS) : Option (AV × AS) :=
 cond (decide (w5 < w0)) (
 gO w4 fun p8 =>
 ldL S p8.1 p8.2 fun v9a v9l v9c =>
 newA S (.cells [(.str w3)]) fun b10 S11 =>
 appendA 1 16 S11 v9a v9l v9c 1 (firstA S11 1 1 (.sl (some (.rw b10, 0)) 1 (.ex 1))) fun v12a v12l v12c S13 =>
 gO w4 fun p14 =>
 S13.stn p14.1 p14.2 [(.sl v12a v12l v12c)] fun S15 =>
 l1_1_1_0_1_0 w0 w3 w4 (IntKind.wrap .i64 (w5 + 1)) S15) (
 some ((.ptr w4), S))

def b37_entry (call : CallA) (n : Nat)  (l1_1_1_0_1_0 : Int → List UInt8 → Option Pos → Int → AS → Option (AV × AS)) (x0 : Int) (S : AS) : Option (AV × AS) :=
 mkSl 1 384 384 fun l3 c4 =>
 newA S (.cells (zeros c4 [(.int .u8 0)])) fun b1 S2 =>
 bytesStr S2 (some (.rw b1, 0)) l3 fun s5 =>
 newA S2 (.cells [(.sl none 0 (.ex 0)), (.sl none 0 (.ex 0)), (.int .i64 (-1))]) fun b6 S7 =>
 l1_1_1_0_1_0 x0 s5 (some ((.rw b6), 0)) 0 S7

def r37_l1_1_1_0_1_0 (call : CallA) (n : Nat)  (m : Nat) (w0 : Int) (w3 : List UInt8) (w4 : Option Pos) (w5 : Int) (S : AS) : Option (AV × AS) := loopN (evC E call n 37 (E.at 37 [1, 1, 1, 0, 1, 0, 0]) 0) [0, 3, 4, 5] m [(0, (.int .i64 w0)), (3, (.str w3)), (4, (.ptr w4)), (5, (.int .i64 w5))] S (kBlk 0 (kSeq E call n 37 (E.at 37 [1, 1, 1, 1]) 0 (retK E (E.fn 37))))
theorem a37_l1_1_1_0_1_0 (call : CallA) (n : Nat)  (m : Nat) (w0 : Int) (w3 : List UInt8) (w4 : Option Pos) (w5 : Int) (S : AS) : r37_l1_1_1_0_1_0 call n  (m + 1) w0 w3 w4 w5 S = b37_l1_1_1_0_1_0 call n (r37_l1_1_1_0_1_0 call n  m) w0 w3 w4 w5 S := by kernel_rfl
theorem a37_entry (call : CallA) (n : Nat) (x0 : Int) (S : AS) : evC E call n 37 (E.at 37 []) 0 (enumT 0 [(.int .i64 x0)]) S (retK E (E.fn 37)) = b37_entry call n (r37_l1_1_1_0_1_0 call n  n) x0 S := by kernel_rfl
def J37_l1_1_1_0_1_0 (call : CallA) (n : Nat)  (m : Nat) : Int → List UInt8 → Option Pos → Int → AS → Option (AV × AS) := Nat.rec (motive := fun _ => Int → List UInt8 → Option Pos → Int → AS → Option (AV × AS)) (fun _ _ _ _ _ => none) (fun mK ih w0 w3 w4 w5 S => b37_l1_1_1_0_1_0 call n ih w0 w3 w4 w5 S) m
theorem J37_l1_1_1_0_1_0_succ (call : CallA) (n : Nat)  (m : Nat) (w0 : Int) (w3 : List UInt8) (w4 : Option Pos) (w5 : Int) (S : AS) : J37_l1_1_1_0_1_0 call n  (m + 1) w0 w3 w4 w5 S = b37_l1_1_1_0_1_0 call n (J37_l1_1_1_0_1_0 call n  m) w0 w3 w4 w5 S := rfl
theorem h37_l1_1_1_0_1_0 (call : CallA) (n : Nat)  (m : Nat) : r37_l1_1_1_0_1_0 call n  m = J37_l1_1_1_0_1_0 call n  m := by
  induction m with
  | zero => rfl
  | succ m ih =>
    funext w0 w3 w4 w5 S
    rw [J37_l1_1_1_0_1_0_succ, a37_l1_1_1_0_1_0, ih]
def J37 (call : CallA) (n : Nat) (x0 : Int) (S : AS) : Option (AV × AS) := b37_entry call n (J37_l1_1_1_0_1_0 call n  n) x0 S
theorem run37 (o : Orc) (n : Nat) (args : List AV) (S : AS) (ho : o 37 args = none) : evF E o (n + 1) (.fn 37) args S = evC E (evF E o n) n 37 (E.at 37 []) 0 (enumT 0 args) S (retK E (E.fn 37)) := by
  rw [evF, ho]; kernel_rfl
theorem J37_eq (call : CallA) (n : Nat) (x0 : Int) (S : AS) : evC E call n 37 (E.at 37 []) 0 (enumT 0 [(.int .i64 x0)]) S (retK E (E.fn 37)) = J37 call n x0 S := by
  rw [J37, a37_entry, h37_l1_1_1_0_1_0 call n  n]
theorem F37 {o : Orc} (n : Nat) (x0 : Int) (S : AS) (ho : ∀ args, o 37 args = none) : evF E o (n + 1) (.fn 37) [(.int .i64 x0)] S = J37 (evF E o n) n x0 S := (run37 o n [(.int .i64 x0)] S (ho _)).trans (J37_eq _ _ x0 S)
def b38_l0_1_0 (call : CallA) (n : Nat)  (l0_1_0_0_1_0_0_1_0_1_0 : Option Pos → Option Pos → Nat → Cap → Int → Bool → Int → AS → Option (AV × AS)) (j1 : Option Pos → AS → Option (AV × AS)) (w0 : Option Pos) (w1a : Option Pos) (w1l : Nat) (w1c : Cap) (w4 : Int) (S : AS) : Option (AV × AS) :=
 gO w0 fun p1 =>
 ldL S p1.1 (p1.2 + 1) fun v2a v2l v2c =>
 cond (decide (w4 < ((v2l : Nat) : Int))) (
 l0_1_0_0_1_0_0_1_0_1_0 w0 w1a w1l w1c w4 false 0 S) (
 j1 w0 S)

def b38_l0_1_0_0_1_0_0_1_0_1_0 (call : CallA) (n : Nat)  (l0_1_0_0_1_0_0_1_0_1_0 : Option Pos → Option Pos → Nat → Cap → Int → Bool → Int → AS → Option (AV × AS)) (j0_1_0_0_1_0_0_1_1 : Option Pos → Option Pos → Nat → Cap → Int → Bool → AS → Option (AV × AS)) (w0 : Option Pos) (w1a : Option Pos) (w1l : Nat) (w1c : Cap) (w4 : Int) (w5 : Bool) (w6 : Int) (S : AS) : Option (AV × AS) :=
 cond (decide (w6 < ((w1l : Nat) : Int))) (
 cond w5 (
 l0_1_0_0_1_0_0_1_0_1_0 w0 w1a w1l w1c w4 true (IntKind.wrap .i64 (w6 + 1)) S) (
 ixSl 1 w1a w1l w6 fun p3 =>
 ldI .i64 S p3.1 p3.2 fun v4 =>
 l0_1_0_0_1_0_0_1_0_1_0 w0 w1a w1l w1c w4 (v4 == w4) (IntKind.wrap .i64 (w6 + 1)) S)) (
 j0_1_0_0_1_0_0_1_1 w0 w1a w1l w1c w4 w5 S)

def b38_j1 (call : CallA) (n : Nat)   (w0 : Option Pos) (S : AS) : Option (AV × AS) :=
 gO w0 fun p5 =>
 S.stn p5.1 (p5.2 + 1) [(.sl none 0 (.ex 0))] fun S6 =>
 some (.tup [], S6)

def b38_j0_1_0_0_1_0_0_1_1 (call : CallA) (n : Nat)  (j0_1_0_0_1_1 : Option Pos → Option Pos → Nat → Cap → Int → AS → Option (AV × AS)) (w0 : Option Pos) (w1a : Option Pos) (w1l : Nat) (w1c : Cap) (w4 : Int) (w5 : Bool) (S : AS) : Option (AV × AS) :=
 cond w5 (
 gO w0 fun p7 =>
 ldL S p7.1 p7.2 fun v8a v8l v8c =>
 gO w0 fun p9 =>
 ldL S p9.1 (p9.2 + 1) fun v10a v10l v10c =>
 ixSl 2 v10a v10l w4 fun p11 =>
 ldI .i64 S p11.1 p11.2 fun v12 =>
 gO w0 fun p13 =>
 ldL S p13.1 (p13.2 + 1) fun v14a v14l v14c =>
 ixSl 2 v14a v14l w4 fun p15 =>
 ldS S p15.1 (p15.2 + 1) fun v16 =>
 ixSl 1 v8a v8l v12 fun p17 =>
 S.stn p17.1 p17.2 [(.str v16)] fun S18 =>
 j0_1_0_0_1_1 w0 w1a w1l w1c w4 S18) (
 j0_1_0_0_1_1 w0 w1a w1l w1c w4 S)

def b38_j0_1_0_0_1_1 (call : CallA) (n : Nat)  (l0_1_0 : Option Pos → Option Pos → Nat → Cap → Int → AS → Option (AV × AS)) (w0 : Option Pos) (w1a : Option Pos) (w1l : Nat) (w1c : Cap) (w4 : Int) (S : AS) : Option (AV × AS) :=
 l0_1_0 w0 w1a w1l w1c (IntKind.wrap .i64 (w4 + 1)) S

def b38_entry (call : CallA) (n : Nat)  (l0_1_0 : Option Pos → Option Pos → Nat → Cap → Int → AS → Option (AV × AS)) (x0 : Option Pos) (x1a : Option Pos) (x1l : Nat) (x1c : Cap) (S : AS) : Option (AV × AS) :=
 l0_1_0 x0 x1a x1l x1c 0 S

def r38_l0_1_0 (call : CallA) (n : Nat)  (m : Nat) (w0 : Option Pos) (w1a : Option Pos) (w1l : Nat) (w1c : Cap) (w4 : Int) (S : AS) : Option (AV × AS) := loopN (evC E call n 38 (E.at 38 [0, 1, 0, 0]) 0) [0, 1, 4] m [(0, (.ptr w0)), (1, (.sl w1a w1l w1c)), (4, (.int .i64 w4))] S (kBlk 0 (kSeq E call n 38 (E.at 38 [1]) 0 (retK E (E.fn 38))))
def r38_l0_1_0_0_1_0_0_1_0_1_0 (call : CallA) (n : Nat) (m0_1_0 : Nat) (m : Nat) (w0 : Option Pos) (w1a : Option Pos) (w1l : Nat) (w1c : Cap) (w4 : Int) (w5 : Bool) (w6 : Int) (S : AS) : Option (AV × AS) := loopN (evC E call n 38 (E.at 38 [0, 1, 0, 0, 1, 0, 0, 1, 0, 1, 0, 0]) 2) [0, 1, 4, 5, 6] m [(0, (.ptr w0)), (1, (.sl w1a w1l w1c)), (4, (.int .i64 w4)), (5, (.bool w5)), (6, (.int .i64 w6))] S (kBlk 2 (kSeq E call n 38 (E.at 38 [0, 1, 0, 0, 1, 0, 0, 1, 1]) 1 (kBlk 1 (kSeq E call n 38 (E.at 38 [0, 1, 0, 0, 1, 1]) 0 (kLp (evC E call n 38 (E.at 38 [0, 1, 0, 0]) 0) [0, 1, 4] m0_1_0 (kBlk 0 (kSeq E call n 38 (E.at 38 [1]) 0 (retK E (E.fn 38)))))))))
def r38_j1 (call : CallA) (n : Nat)  (w0 : Option Pos) (S : AS) : Option (AV × AS) := evC E call n 38 (E.at 38 [1]) 0 [(0, (.ptr w0))] S (retK E (E.fn 38))
def r38_j0_1_0_0_1_0_0_1_1 (call : CallA) (n : Nat) (m0_1_0 : Nat) (w0 : Option Pos) (w1a : Option Pos) (w1l : Nat) (w1c : Cap) (w4 : Int) (w5 : Bool) (S : AS) : Option (AV × AS) := evC E call n 38 (E.at 38 [0, 1, 0, 0, 1, 0, 0, 1, 1]) 1 [(0, (.ptr w0)), (1, (.sl w1a w1l w1c)), (4, (.int .i64 w4)), (5, (.bool w5))] S (kBlk 1 (kSeq E call n 38 (E.at 38 [0, 1, 0, 0, 1, 1]) 0 (kLp (evC E call n 38 (E.at 38 [0, 1, 0, 0]) 0) [0, 1, 4] m0_1_0 (kBlk 0 (kSeq E call n 38 (E.at 38 [1]) 0 (retK E (E.fn 38)))))))
def r38_j0_1_0_0_1_1 (call : CallA) (n : Nat) (m0_1_0 : Nat) (w0 : Option Pos) (w1a : Option Pos) (w1l : Nat) (w1c : Cap) (w4 : Int) (S : AS) : Option (AV × AS) := evC E call n 38 (E.at 38 [0, 1, 0, 0, 1, 1]) 0 [(0, (.ptr w0)), (1, (.sl w1a w1l w1c)), (4, (.int .i64 w4))] S (kLp (evC E call n 38 (E.at 38 [0, 1, 0, 0]) 0) [0, 1, 4] m0_1_0 (kBlk 0 (kSeq E call n 38 (E.at 38 [1]) 0 (retK E (E.fn 38)))))
theorem a38_l0_1_0 (call : CallA) (n : Nat)  (m : Nat) (w0 : Option Pos) (w1a : Option Pos) (w1l : Nat) (w1c : Cap) (w4 : Int) (S : AS) : r38_l0_1_0 call n  (m + 1) w0 w1a w1l w1c w4 S = b38_l0_1_0 call n (r38_l0_1_0_0_1_0_0_1_0_1_0 call n m n) (r38_j1 call n ) w0 w1a w1l w1c w4 S := by kernel_rfl
theorem a38_l0_1_0_0_1_0_0_1_0_1_0 (call : CallA) (n : Nat) (m0_1_0 : Nat) (m : Nat) (w0 : Option Pos) (w1a : Option Pos) (w1l : Nat) (w1c : Cap) (w4 : Int) (w5 : Bool) (w6 : Int) (S : AS) : r38_l0_1_0_0_1_0_0_1_0_1_0 call n m0_1_0 (m + 1) w0 w1a w1l w1c w4 w5 w6 S = b38_l0_1_0_0_1_0_0_1_0_1_0 call n (r38_l0_1_0_0_1_0_0_1_0_1_0 call n m0_1_0 m) (r38_j0_1_0_0_1_0_0_1_1 call n m0_1_0) w0 w1a w1l w1c w4 w5 w6 S := by kernel_rfl
theorem a38_j1 (call : CallA) (n : Nat)  (w0 : Option Pos) (S : AS) : r38_j1 call n  w0 S = b38_j1 call n  w0 S := by kernel_rfl
theorem a38_j0_1_0_0_1_0_0_1_1 (call : CallA) (n : Nat) (m0_1_0 : Nat) (w0 : Option Pos) (w1a : Option Pos) (w1l : Nat) (w1c : Cap) (w4 : Int) (w5 : Bool) (S : AS) : r38_j0_1_0_0_1_0_0_1_1 call n m0_1_0 w0 w1a w1l w1c w4 w5 S = b38_j0_1_0_0_1_0_0_1_1 call n (r38_j0_1_0_0_1_1 call n m0_1_0) w0 w1a w1l w1c w4 w5 S := by kernel_rfl
theorem a38_j0_1_0_0_1_1 (call : CallA) (n : Nat) (m0_1_0 : Nat) (w0 : Option Pos) (w1a : Option Pos) (w1l : Nat) (w1c : Cap) (w4 : Int) (S : AS) : r38_j0_1_0_0_1_1 call n m0_1_0 w0 w1a w1l w1c w4 S = b38_j0_1_0_0_1_1 call n (r38_l0_1_0 call n  m0_1_0) w0 w1a w1l w1c w4 S := by kernel_rfl
theorem a38_entry (call : CallA) (n : Nat) (x0 : Option Pos) (x1a : Option Pos) (x1l : Nat) (x1c : Cap) (S : AS) : evC E call n 38 (E.at 38 []) 0 (enumT 0 [(.ptr x0), (.sl x1a x1l x1c)]) S (retK E (E.fn 38)) = b38_entry call n (r38_l0_1_0 call n  n) x0 x1a x1l x1c S := by kernel_rfl
def J38_j0_1_0_0_1_1 (call : CallA) (n : Nat) (n0_1_0 : Option Pos → Option Pos → Nat → Cap → Int → AS → Option (AV × AS)) (w0 : Option Pos) (w1a : Option Pos) (w1l : Nat) (w1c : Cap) (w4 : Int) (S : AS) : Option (AV × AS) := b38_j0_1_0_0_1_1 call n n0_1_0 w0 w1a w1l w1c w4 S
theorem h38_j0_1_0_0_1_1 (call : CallA) (n : Nat) (m0_1_0 : Nat) : r38_j0_1_0_0_1_1 call n m0_1_0 = J38_j0_1_0_0_1_1 call n (r38_l0_1_0 call n  m0_1_0) := by
  funext w0 w1a w1l w1c w4 S
  rw [J38_j0_1_0_0_1_1, a38_j0_1_0_0_1_1]
def J38_j0_1_0_0_1_0_0_1_1 (call : CallA) (n : Nat) (n0_1_0 : Option Pos → Option Pos → Nat → Cap → Int → AS → Option (AV × AS)) (w0 : Option Pos) (w1a : Option Pos) (w1l : Nat) (w1c : Cap) (w4 : Int) (w5 : Bool) (S : AS) : Option (AV × AS) := b38_j0_1_0_0_1_0_0_1_1 call n (J38_j0_1_0_0_1_1 call n n0_1_0) w0 w1a w1l w1c w4 w5 S
theorem h38_j0_1_0_0_1_0_0_1_1 (call : CallA) (n : Nat) (m0_1_0 : Nat) : r38_j0_1_0_0_1_0_0_1_1 call n m0_1_0 = J38_j0_1_0_0_1_0_0_1_1 call n (r38_l0_1_0 call n  m0_1_0) := by
  funext w0 w1a w1l w1c w4 w5 S
  rw [J38_j0_1_0_0_1_0_0_1_1, a38_j0_1_0_0_1_0_0_1_1, h38_j0_1_0_0_1_1 call n m0_1_0]
def J38_l0_1_0_0_1_0_0_1_0_1_0 (call : CallA) (n : Nat) (n0_1_0 : Option Pos → Option Pos → Nat → Cap → Int → AS → Option (AV × AS)) (m : Nat) : Option Pos → Option Pos → Nat → Cap → Int → Bool → Int → AS → Option (AV × AS) := Nat.rec (motive := fun _ => Option Pos → Option Pos → Nat → Cap → Int → Bool → Int → AS → Option (AV × AS)) (fun _ _ _ _ _ _ _ _ => none) (fun mK ih w0 w1a w1l w1c w4 w5 w6 S => b38_l0_1_0_0_1_0_0_1_0_1_0 call n ih (J38_j0_1_0_0_1_0_0_1_1 call n n0_1_0) w0 w1a w1l w1c w4 w5 w6 S) m
theorem J38_l0_1_0_0_1_0_0_1_0_1_0_succ (call : CallA) (n : Nat) (n0_1_0 : Option Pos → Option Pos → Nat → Cap → Int → AS → Option (AV × AS)) (m : Nat) (w0 : Option Pos) (w1a : Option Pos) (w1l : Nat) (w1c : Cap) (w4 : Int) (w5 : Bool) (w6 : Int) (S : AS) : J38_l0_1_0_0_1_0_0_1_0_1_0 call n n0_1_0 (m + 1) w0 w1a w1l w1c w4 w5 w6 S = b38_l0_1_0_0_1_0_0_1_0_1_0 call n (J38_l0_1_0_0_1_0_0_1_0_1_0 call n n0_1_0 m) (J38_j0_1_0_0_1_0_0_1_1 call n n0_1_0) w0 w1a w1l w1c w4 w5 w6 S := rfl
theorem h38_l0_1_0_0_1_0_0_1_0_1_0 (call : CallA) (n : Nat) (m0_1_0 : Nat) (m : Nat) : r38_l0_1_0_0_1_0_0_1_0_1_0 call n m0_1_0 m = J38_l0_1_0_0_1_0_0_1_0_1_0 call n (r38_l0_1_0 call n  m0_1_0) m := by
  induction m with
  | zero => rfl
  | succ m ih =>
    funext w0 w1a w1l w1c w4 w5 w6 S
    rw [J38_l0_1_0_0_1_0_0_1_0_1_0_succ, a38_l0_1_0_0_1_0_0_1_0_1_0, h38_j0_1_0_0_1_0_0_1_1 call n m0_1_0, ih]
def J38_j1 (call : CallA) (n : Nat)  (w0 : Option Pos) (S : AS) : Option (AV × AS) := b38_j1 call n  w0 S
theorem h38_j1 (call : CallA) (n : Nat)  : r38_j1 call n  = J38_j1 call n  := by
  funext w0 S
  rw [J38_j1, a38_j1]
def J38_l0_1_0 (call : CallA) (n : Nat)  (m : Nat) : Option Pos → Option Pos → Nat → Cap → Int → AS → Option (AV × AS) := Nat.rec (motive := fun _ => Option Pos → Option Pos → Nat → Cap → Int → AS → Option (AV × AS)) (fun _ _ _ _ _ _ => none) (fun mK ih w0 w1a w1l w1c w4 S => b38_l0_1_0 call n (J38_l0_1_0_0_1_0_0_1_0_1_0 call n ih n) (J38_j1 call n ) w0 w1a w1l w1c w4 S) m
theorem J38_l0_1_0_succ (call : CallA) (n : Nat)  (m : Nat) (w0 : Option Pos) (w1a : Option Pos) (w1l : Nat) (w1c : Cap) (w4 : Int) (S : AS) : J38_l0_1_0 call n  (m + 1) w0 w1a w1l w1c w4 S = b38_l0_1_0 call n (J38_l0_1_0_0_1_0_0_1_0_1_0 call n (J38_l0_1_0 call n  m) n) (J38_j1 call n ) w0 w1a w1l w1c w4 S := rfl
theorem h38_l0_1_0 (call : CallA) (n : Nat)  (m : Nat) : r38_l0_1_0 call n  m = J38_l0_1_0 call n  m := by
  induction m with
  | zero => rfl
  | succ m ih =>
    funext w0 w1a w1l w1c w4 S
    rw [J38_l0_1_0_succ, a38_l0_1_0, h38_l0_1_0_0_1_0_0_1_0_1_0 call n m n, h38_j1 call n , ih]
def J38 (call : CallA) (n : Nat) (x0 : Option Pos) (x1a : Option Pos) (x1l : Nat) (x1c : Cap) (S : AS) : Option (AV × AS) := b38_entry call n (J38_l0_1_0 call n  n) x0 x1a x1l x1c S
theorem run38 (o : Orc) (n : Nat) (args : List AV) (S : AS) (ho : o 38 args = none) : evF E o (n + 1) (.fn 38) args S = evC E (evF E o n) n 38 (E.at 38 []) 0 (enumT 0 args) S (retK E (E.fn 38)) := by
  rw [evF, ho]; kernel_rfl
theorem J38_eq (call : CallA) (n : Nat) (x0 : Option Pos) (x1a : Option Pos) (x1l : Nat) (x1c : Cap) (S : AS) : evC E call n 38 (E.at 38 []) 0 (enumT 0 [(.ptr x0), (.sl x1a x1l x1c)]) S (retK E (E.fn 38)) = J38 call n x0 x1a x1l x1c S := by
  rw [J38, a38_entry, h38_l0_1_0 call n  n]
theorem F38 {o : Orc} (n : Nat) (x0 : Option Pos) (x1a : Option Pos) (x1l : Nat) (x1c : Cap) (S : AS) (ho : ∀ args, o 38 args = none) : evF E o (n + 1) (.fn 38) [(.ptr x0), (.sl x1a x1l x1c)] S = J38 (evF E o n) n x0 x1a x1l x1c S := (run38 o n [(.ptr x0), (.sl x1a x1l x1c)] S (ho _)).trans (J38_eq _ _ x0 x1a x1l x1c S)
def b39_l1_0_1_0 (call : CallA) (n : Nat)  (l1_0_1_0 : Bool → Option Pos → Nat → Cap → Int → Int → AS → Option (AV × AS)) (w2 : Bool) (w5a : Option Pos) (w5l : Nat) (w5c : Cap) (w6 : Int) (w7 : Int) (S : AS) : Option (AV × AS) :=
 cond (decide (w7 < w6)) (
 ixSl 1 w5a w5l w7 fun p1 =>
 ldI .u64 S p1.1 p1.2 fun v2 =>
 cond (decide (v2 > 4611686018427387904)) (
 some ((.bool false), S)) (
 l1_0_1_0 w2 w5a w5l w5c w6 (IntKind.wrap .i64 (w7 + 1)) S)) (
 some ((.bool true), S))

def b39_entry (call : CallA) (n : Nat)  (l1_0_1_0 : Bool → Option Pos → Nat → Cap → Int → Int → AS → Option (AV × AS)) (x0a : Option Pos) (x0l : Nat) (x0c : Cap) (S : AS) : Option (AV × AS) :=
 l1_0_1_0 false x0a x0l x0c ((x0l : Nat) : Int) 0 S

def r39_l1_0_1_0 (call : CallA) (n : Nat)  (m : Nat) (w2 : Bool) (w5a : Option Pos) (w5l : Nat) (w5c : Cap) (w6 : Int) (w7 : Int) (S : AS) : Option (AV × AS) := loopN (evC E call n 39 (E.at 39 [1, 0, 1, 0, 0]) 0) [2, 5, 6, 7] m [(2, (.bool w2)), (5, (.sl w5a w5l w5c)), (6, (.int .i64 w6)), (7, (.int .i64 w7))] S (kBlk 0 (kSeq E call n 39 (E.at 39 [1, 1]) 0 (retK E (E.fn 39))))
theorem a39_l1_0_1_0 (call : CallA) (n : Nat)  (m : Nat) (w2 : Bool) (w5a : Option Pos) (w5l : Nat) (w5c : Cap) (w6 : Int) (w7 : Int) (S : AS) : r39_l1_0_1_0 call n  (m + 1) w2 w5a w5l w5c w6 w7 S = b39_l1_0_1_0 call n (r39_l1_0_1_0 call n  m) w2 w5a w5l w5c w6 w7 S := by kernel_rfl
theorem a39_entry (call : CallA) (n : Nat) (x0a : Option Pos) (x0l : Nat) (x0c : Cap) (S : AS) : evC E call n 39 (E.at 39 []) 0 (enumT 0 [(.sl x0a x0l x0c)]) S (retK E (E.fn 39)) = b39_entry call n (r39_l1_0_1_0 call n  n) x0a x0l x0c S := by kernel_rfl
def J39_l1_0_1_0 (call : CallA) (n : Nat)  (m : Nat) : Bool → Option Pos → Nat → Cap → Int → Int → AS → Option (AV × AS) := Nat.rec (motive := fun _ => Bool → Option Pos → Nat → Cap → Int → Int → AS → Option (AV × AS)) (fun _ _ _ _ _ _ _ => none) (fun mK ih w2 w5a w5l w5c w6 w7 S => b39_l1_0_1_0 call n ih w2 w5a w5l w5c w6 w7 S) m
theorem J39_l1_0_1_0_succ (call : CallA) (n : Nat)  (m : Nat) (w2 : Bool) (w5a : Option Pos) (w5l : Nat) (w5c : Cap) (w6 : Int) (w7 : Int) (S : AS) : J39_l1_0_1_0 call n  (m + 1) w2 w5a w5l w5c w6 w7 S = b39_l1_0_1_0 call n (J39_l1_0_1_0 call n  m) w2 w5a w5l w5c w6 w7 S := rfl
theorem h39_l1_0_1_0 (call : CallA) (n : Nat)  (m : Nat) : r39_l1_0_1_0 call n  m = J39_l1_0_1_0 call n  m := by
  induction m with
  | zero => rfl
  | succ m ih =>
    funext w2 w5a w5l w5c w6 w7 S
    rw [J39_l1_0_1_0_succ, a39_l1_0_1_0, ih]
def J39 (call : CallA) (n : Nat) (x0a : Option Pos) (x0l : Nat) (x0c : Cap) (S : AS) : Option (AV × AS) := b39_entry call n (J39_l1_0_1_0 call n  n) x0a x0l x0c S
theorem run39 (o : Orc) (n : Nat) (args : List AV) (S : AS) (ho : o 39 args = none) : evF E o (n + 1) (.fn 39) args S = evC E (evF E o n) n 39 (E.at 39 []) 0 (enumT 0 args) S (retK E (E.fn 39)) := by
  rw [evF, ho]; kernel_rfl
theorem J39_eq (call : CallA) (n : Nat) (x0a : Option Pos) (x0l : Nat) (x0c : Cap) (S : AS) : evC E call n 39 (E.at 39 []) 0 (enumT 0 [(.sl x0a x0l x0c)]) S (retK E (E.fn 39)) = J39 call n x0a x0l x0c S := by
  rw [J39, a39_entry, h39_l1_0_1_0 call n  n]
theorem F39 {o : Orc} (n : Nat) (x0a : Option Pos) (x0l : Nat) (x0c : Cap) (S : AS) (ho : ∀ args, o 39 args = none) : evF E o (n + 1) (.fn 39) [(.sl x0a x0l x0c)] S = J39 (evF E o n) n x0a x0l x0c S := (run39 o n [(.sl x0a x0l x0c)] S (ho _)).trans (J39_eq _ _ x0a x0l x0c S)
def b40_entry (call : CallA) (n : Nat)   (x0a : Option Pos) (x0l : Nat) (x0c : Cap) (x1 : Int) (x2 : Int) (S : AS) : Option (AV × AS) :=
 appendZA 1 1 [(.int .u8 0)] S x0a x0l x0c x2 fun v1a v1l v1c S2 =>
 slSl 1 v1a v1l v1c (some (IntKind.wrap .i64 (((v1l : Nat) : Int) - x2))) none none fun v3a v3l v3c =>
 callT call 55 [(.sl v3a v3l v3c), (.int .u64 x1)] S2 fun v5 S4 =>
 some ((.sl v1a v1l v1c), S4)

theorem a40_entry (call : CallA) (n : Nat) (x0a : Option Pos) (x0l : Nat) (x0c : Cap) (x1 : Int) (x2 : Int) (S : AS) : evC E call n 40 (E.at 40 []) 0 (enumT 0 [(.sl x0a x0l x0c), (.int .u64 x1), (.int .i64 x2)]) S (retK E (E.fn 40)) = b40_entry call n  x0a x0l x0c x1 x2 S := by kernel_rfl
def J40 (call : CallA) (n : Nat) (x0a : Option Pos) (x0l : Nat) (x0c : Cap) (x1 : Int) (x2 : Int) (S : AS) : Option (AV × AS) := b40_entry call n  x0a x0l x0c x1 x2 S
theorem run40 (o : Orc) (n : Nat) (args : List AV) (S : AS) (ho : o 40 args = none) : evF E o (n + 1) (.fn 40) args S = evC E (evF E o n) n 40 (E.at 40 []) 0 (enumT 0 args) S (retK E (E.fn 40)) := by
  rw [evF, ho]; kernel_rfl
theorem J40_eq (call : CallA) (n : Nat) (x0a : Option Pos) (x0l : Nat) (x0c : Cap) (x1 : Int) (x2 : Int) (S : AS) : evC E call n 40 (E.at 40 []) 0 (enumT 0 [(.sl x0a x0l x0c), (.int .u64 x1), (.int .i64 x2)]) S (retK E (E.fn 40)) = J40 call n x0a x0l x0c x1 x2 S := by
  rw [J40, a40_entry]
theorem F40 {o : Orc} (n : Nat) (x0a : Option Pos) (x0l : Nat) (x0c : Cap) (x1 : Int) (x2 : Int) (S : AS) (ho : ∀ args, o 40 args = none) : evF E o (n + 1) (.fn 40) [(.sl x0a x0l x0c), (.int .u64 x1), (.int .i64 x2)] S = J40 (evF E o n) n x0a x0l x0c x1 x2 S := (run40 o n [(.sl x0a x0l x0c), (.int .u64 x1), (.int .i64 x2)] S (ho _)).trans (J40_eq _ _ x0a x0l x0c x1 x2 S)
def b41_entry (call : CallA) (n : Nat)   (x0a : Option Pos) (x0l : Nat) (x0c : Cap) (S : AS) : Option (AV × AS) :=
 appendZA 1 1 [(.int .u8 0)] S x0a x0l x0c (IntKind.wrap .i64 (384 - ((x0l : Nat) : Int))) fun v1a v1l v1c S2 =>
 some ((.sl v1a v1l v1c), S2)

theorem a41_entry (call : CallA) (n : Nat) (x0a : Option Pos) (x0l : Nat) (x0c : Cap) (S : AS) : evC E call n 41 (E.at 41 []) 0 (enumT 0 [(.sl x0a x0l x0c)]) S (retK E (E.fn 41)) = b41_entry call n  x0a x0l x0c S := by kernel_rfl
def J41 (call : CallA) (n : Nat) (x0a : Option Pos) (x0l : Nat) (x0c : Cap) (S : AS) : Option (AV × AS) := b41_entry call n  x0a x0l x0c S
theorem run41 (o : Orc) (n : Nat) (args : List AV) (S : AS) (ho : o 41 args = none) : evF E o (n + 1) (.fn 41) args S = evC E (evF E o n) n 41 (E.at 41 []) 0 (enumT 0 args) S (retK E (E.fn 41)) := by
  rw [evF, ho]; kernel_rfl
theorem J41_eq (call : CallA) (n : Nat) (x0a : Option Pos) (x0l : Nat) (x0c : Cap) (S : AS) : evC E call n 41 (E.at 41 []) 0 (enumT 0 [(.sl x0a x0l x0c)]) S (retK E (E.fn 41)) = J41 call n x0a x0l x0c S := by
  rw [J41, a41_entry]
theorem F41 {o : Orc} (n : Nat) (x0a : Option Pos) (x0l : Nat) (x0c : Cap) (S : AS) (ho : ∀ args, o 41 args = none) : evF E o (n + 1) (.fn 41) [(.sl x0a x0l x0c)] S = J41 (evF E o n) n x0a x0l x0c S := (run41 o n [(.sl x0a x0l x0c)] S (ho _)).trans (J41_eq _ _ x0a x0l x0c S)
end
end Go.Jn
